/- Which aggregates may be (the code's 'Check'); new ones (the code's 'New'). -/
import Derived.Test.YtgklcfnjahomjaaSzY7
import Derived.Test.YtgklcfnjahomjaaSzVe
set_option linter.unusedVariables false
set_option linter.unusedSimpArgs false
set_option maxRecDepth 100000
namespace Go.Proofs.Ytgklcfnjahomjaa.Sh
open Go Go.RowKit Go.Proofs.Ev
theorem bzY8 : type_of% (And.intro @ld3 (And.intro @ld2 (And.intro @ld9 (And.intro @ld37 (And.intro @ld28 (And.intro @ld42 (And.intro @ld34 (And.intro @ld22 (And.intro @ld24 (And.intro @ld77 (And.intro @ld81 (And.intro @ld29 (And.intro @ld67 (And.intro @ld70 (And.intro @fa37_0 (And.intro @fa37_1 (And.intro @fa37_2 (And.intro @fa28_0 (And.intro @fa28_1 (And.intro @fa42_0 (And.intro @fa42_1 (And.intro @fa42_2 (And.intro @fa79_0 (And.intro @fa79_1 (And.intro @fa69_0 (And.intro @fa69_1 (And.intro @fa69_2 (And.intro @fa69_3 (And.intro @fa69_4 (And.intro @nilC (And.intro @ex2_0 (And.intro @ex2_1 (@Nat.add_zero))))))))))))))))))))))))))))))))):=And.intro @ld3 (And.intro @ld2 (And.intro @ld9 (And.intro @ld37 (And.intro @ld28 (And.intro @ld42 (And.intro @ld34 (And.intro @ld22 (And.intro @ld24 (And.intro @ld77 (And.intro @ld81 (And.intro @ld29 (And.intro @ld67 (And.intro @ld70 (And.intro @fa37_0 (And.intro @fa37_1 (And.intro @fa37_2 (And.intro @fa28_0 (And.intro @fa28_1 (And.intro @fa42_0 (And.intro @fa42_1 (And.intro @fa42_2 (And.intro @fa79_0 (And.intro @fa79_1 (And.intro @fa69_0 (And.intro @fa69_1 (And.intro @fa69_2 (And.intro @fa69_3 (And.intro @fa69_4 (And.intro @nilC (And.intro @ex2_0 (And.intro @ex2_1 (@Nat.add_zero))))))))))))))))))))))))))))))))
def thereA (n : Nat) (c : Int) : Bool:=decide (0 ≤ c) && decide (c < n)
def kindAt (cols : List ColD) (c : Int) : Int:=((cols[c.toNat]?).map ColD.kind).getD 0
/-- May an aggregate be? -/
def mayA (cols : List ColD) (a : AggD) : Bool :=
 if a.k = 1 then decide (a.c = 0) else if a.k = 2 then thereA cols.length a.c && decide (kindAt cols a.c = 1) else if a.k = 3 ∨ a.k = 4 then thereA cols.length a.c else false
theorem f45_there {β : Type} {Q : β→Prop} {inv : Inv} {h : AH} {cv : Value} {cols : List ColD} {a : AggD} {b : Nat} (C : Cols h cv cols) (hl : cols.length ≤ 2 ^ 40) (c1 : h.cell b 1 = some (.int .i64 a.c)) {K : Value→AH→Option β}
  (hk : Tl (K (.bool (thereA cols.length a.c)) h) Q) : Tl (G45_1 inv cv (.pointer (some ⟨b,0,none⟩)) h K) Q:=by
 have hv : ∀ h',pLen Try.prog #[22] cv h' = some (.int .i64 cols.length):=fun h'=>C.len
 simp only [G45_1]
 by_cases q1 : 0 ≤ a.c
 ·by_cases q2 : a.c < cols.length
  ·have : thereA cols.length a.c = true:=by simp [thereA,q1,q2]
   rw [this] at hk
   repeat (first | (with_reducible apply qzV; simp (disch:=omega) only [coreA,Int.reduceBEq,bzY8,c1,hv] <;> with_reducible rfl) | (with_reducible first | apply qzT | apply qzF | apply qzG | apply qzH) | ((with_reducible first | apply qzB | apply qzC | apply qzD); simp (disch:=omega) only [coreA,Int.reduceBEq,bzY8,c1,hv] <;> with_reducible rfl))
   exact hk
  ·have : thereA cols.length a.c = false:=by simp [thereA,q2]
   rw [this] at hk
   repeat (first | (with_reducible apply qzV; simp (disch:=omega) only [coreA,Int.reduceBEq,bzY8,c1,hv] <;> with_reducible rfl) | (with_reducible first | apply qzT | apply qzF | apply qzG | apply qzH) | ((with_reducible first | apply qzB | apply qzC | apply qzD); simp (disch:=omega) only [coreA,Int.reduceBEq,bzY8,c1,hv] <;> with_reducible rfl))
   exact hk
 ·have : thereA cols.length a.c = false:=by simp [thereA,q1]
  rw [this] at hk
  repeat (first | (with_reducible apply qzV; simp (disch:=omega) only [coreA,Int.reduceBEq,bzY8,c1,hv] <;> with_reducible rfl) | (with_reducible first | apply qzT | apply qzF | apply qzG | apply qzH) | ((with_reducible first | apply qzB | apply qzC | apply qzD); simp (disch:=omega) only [coreA,Int.reduceBEq,bzY8,c1,hv] <;> with_reducible rfl))
  exact hk
theorem cellR3 {h : AH} {b o : Nat} {x : ColD} (hrow : h.row b o 3 = some (colrow x)) : h.cell b (o + 1) = some (.int .i64 x.kind):=by
 have:=Ev.cell_of_row (j:=1) hrow (by omega)
 simpa [colrow] using this
theorem f45_sum {β : Type} {Q : β→Prop} {inv : Inv} {h : AH} {cv : Value} {cols : List ColD} {a : AggD} {b : Nat} (C : Cols h cv cols) (hl : cols.length ≤ 2 ^ 40) (c1 : h.cell b 1 = some (.int .i64 a.c)) {K : Value→AH→Option β}
  (hk : Tl (K (.bool (thereA cols.length a.c && decide (kindAt cols a.c = 1))) h) Q) : Tl (G45_6 inv cv (.pointer (some ⟨b,0,none⟩)) (.bool (thereA cols.length a.c)) h K) Q:=by
 simp only [G45_6]
 cases t : thereA cols.length a.c with
 | false =>
  rw [t,Bool.false_and] at hk
  repeat (first | (with_reducible apply qzV; simp (disch:=omega) only [coreA,Int.reduceBEq,bzY8] <;> with_reducible rfl) | (with_reducible first | apply qzT | apply qzF | apply qzG | apply qzH) | ((with_reducible first | apply qzB | apply qzC | apply qzD); simp (disch:=omega) only [coreA,Int.reduceBEq,bzY8] <;> with_reducible rfl))
  exact hk
 | true =>
  rw [t,Bool.true_and] at hk
  unfold thereA at t
  simp only [Bool.and_eq_true,decide_eq_true_eq] at t
  obtain ⟨ak,ac⟩:=a
  simp only at t c1 hk ⊢
  obtain ⟨m,rfl⟩ : ∃ m : Nat,ac = m:=⟨ac.toNat,by omega⟩
  obtain ⟨x,ex⟩ : ∃ x,cols[m]? = some x:=⟨_,List.getElem?_eq_getElem (by omega)⟩
  obtain ⟨b',o',hp,hrow⟩:=C.at_ ex
  have ck : h.cell b' (o' + 1) = some (.int .i64 x.kind):=cellR3 hrow
  have ek : kindAt cols (m : Int) = x.kind:=by unfold kindAt; rw [Int.toNat_natCast,ex]; rfl
  rw [ek] at hk
  repeat (first | (with_reducible apply qzV; simp (disch:=omega) only [coreA,Int.reduceBEq,bzY8,c1,hp,ck] <;> with_reducible rfl) | (with_reducible first | apply qzT | apply qzF | apply qzG | apply qzH) | ((with_reducible first | apply qzB | apply qzC | apply qzD); simp (disch:=omega) only [coreA,Int.reduceBEq,bzY8,c1,hp,ck] <;> with_reducible rfl))
  exact hk
theorem f45c {k : Nat} {h : AH} {cv : Value} {cols : List ColD} (C : Cols h cv cols) (hl : cols.length ≤ 2 ^ 40) (a : AggD) : Tl (eInv env (k + 1) (.func 45) #[] #[cv,a.v] h) fun r=>r.1 = .bool (mayA cols a) ∧ Grow h r.2:=by
 rw [F45_call]
 unfold F45
 refine Tl.box' (Stt.init h) rfl (by rw [sz28]; rfl) fun b1 h1 S1 g1=>?_
 have c0 : h1.cell b1 0 = some (.int .i64 a.k):=S1.cell 0 rfl rfl
 have c1 : h1.cell b1 1 = some (.int .i64 a.c):=S1.cell 0 rfl rfl
 have C1:=C.grow g1
 unfold mayA
 refine f45_there C1 hl c1 ?_
 by_cases q1 : a.k = 1
 ·rw [if_pos q1]
  repeat (first | (with_reducible apply qzV; simp (disch:=omega) only [coreA,Int.reduceBEq,bzY8,c0,c1] <;> with_reducible rfl) | (with_reducible first | apply qzT | apply qzF | apply qzG | apply qzH) | ((with_reducible first | apply qzB | apply qzC | apply qzD); simp (disch:=omega) only [coreA,Int.reduceBEq,bzY8,c0,c1] <;> with_reducible rfl))
  exact ⟨_,rfl,rfl,g1⟩
 ·rw [if_neg q1]
  by_cases q2 : a.k = 2
  ·rw [if_pos q2]
   repeat (first | (with_reducible apply qzV; simp (disch:=omega) only [coreA,Int.reduceBEq,bzY8,c0,c1] <;> with_reducible rfl) | (with_reducible first | apply qzT | apply qzF | apply qzG | apply qzH) | ((with_reducible first | apply qzB | apply qzC | apply qzD); simp (disch:=omega) only [coreA,Int.reduceBEq,bzY8,c0,c1] <;> with_reducible rfl))
   refine f45_sum C1 hl c1 ?_
   exact ⟨_,rfl,rfl,g1⟩
  ·rw [if_neg q2]
   by_cases q3 : a.k = 3
   ·rw [if_pos (.inl q3)]
    repeat (first | (with_reducible apply qzV; simp (disch:=omega) only [coreA,Int.reduceBEq,bzY8,c0,c1] <;> with_reducible rfl) | (with_reducible first | apply qzT | apply qzF | apply qzG | apply qzH) | ((with_reducible first | apply qzB | apply qzC | apply qzD); simp (disch:=omega) only [coreA,Int.reduceBEq,bzY8,c0,c1] <;> with_reducible rfl))
    simp only [F45_rlrrrrlrlrr]
    repeat (first | (with_reducible apply qzV; simp (disch:=omega) only [coreA,Int.reduceBEq,bzY8] <;> with_reducible rfl) | (with_reducible first | apply qzT | apply qzF | apply qzG | apply qzH) | ((with_reducible first | apply qzB | apply qzC | apply qzD); simp (disch:=omega) only [coreA,Int.reduceBEq,bzY8] <;> with_reducible rfl))
    exact ⟨_,rfl,rfl,g1⟩
   ·by_cases q4 : a.k = 4
    ·rw [if_pos (.inr q4)]
     repeat (first | (with_reducible apply qzV; simp (disch:=omega) only [coreA,Int.reduceBEq,bzY8,c0,c1] <;> with_reducible rfl) | (with_reducible first | apply qzT | apply qzF | apply qzG | apply qzH) | ((with_reducible first | apply qzB | apply qzC | apply qzD); simp (disch:=omega) only [coreA,Int.reduceBEq,bzY8,c0,c1] <;> with_reducible rfl))
     simp only [F45_rlrrrrlrlrr]
     repeat (first | (with_reducible apply qzV; simp (disch:=omega) only [coreA,Int.reduceBEq,bzY8] <;> with_reducible rfl) | (with_reducible first | apply qzT | apply qzF | apply qzG | apply qzH) | ((with_reducible first | apply qzB | apply qzC | apply qzD); simp (disch:=omega) only [coreA,Int.reduceBEq,bzY8] <;> with_reducible rfl))
     exact ⟨_,rfl,rfl,g1⟩
    ·rw [if_neg (fun h=>h.elim q3 q4)]
     repeat (first | (with_reducible apply qzV; simp (disch:=omega) only [coreA,Int.reduceBEq,bzY8,c0,c1] <;> with_reducible rfl) | (with_reducible first | apply qzT | apply qzF | apply qzG | apply qzH) | ((with_reducible first | apply qzB | apply qzC | apply qzD); simp (disch:=omega) only [coreA,Int.reduceBEq,bzY8,c0,c1] <;> with_reducible rfl))
     simp only [F45_rlrrrrlrlrr]
     repeat (first | (with_reducible apply qzV; simp (disch:=omega) only [coreA,Int.reduceBEq,bzY8] <;> with_reducible rfl) | (with_reducible first | apply qzT | apply qzF | apply qzG | apply qzH) | ((with_reducible first | apply qzB | apply qzC | apply qzD); simp (disch:=omega) only [coreA,Int.reduceBEq,bzY8] <;> with_reducible rfl))
     exact ⟨_,rfl,rfl,g1⟩
theorem f44c {k : Nat} {cv : Value} {cols : List ColD} (a : AggD) {h : AH} {bc : Nat} (hc : h.cell bc 0 = some cv) (C : Cols h cv cols) (hl : cols.length ≤ 2 ^ 40) :
  Tl (callV (eInv env (k + 2)) (.func (.func 44) #[] #[.pointer (some ⟨bc,0,none⟩)]) #[a.v] h) fun r=>r.1 = .bool (!mayA cols a) ∧ Grow h r.2:=by
 rw [callV_cap1 (by kernel_rfl),F44_eq]
 unfold F44
 refine Tl.box' (Stt.init h) rfl (by rw [sz28]; rfl) fun b1 h1 S1 g1=>?_
 have r0 : h1.row b1 0 2 = some (arow a):=S1.row 0 rfl rfl
 have c1:=g1.cell hc
 repeat (first | (with_reducible apply qzV; simp (disch:=omega) only [coreA,Int.reduceBEq,bzY8,r0,c1] <;> with_reducible rfl) | (with_reducible first | apply qzT | apply qzF | apply qzG | apply qzH) | ((with_reducible first | apply qzB | apply qzC | apply qzD); simp (disch:=omega) only [coreA,Int.reduceBEq,bzY8,r0,c1] <;> with_reducible rfl))
 refine Tl.bind (f45c (k:=k) (C.grow g1) hl a) ?_
 rintro ⟨r,h2⟩ ⟨er,g2⟩
 simp only at er g2
 subst er
 repeat (first | (with_reducible apply qzV; simp (disch:=omega) only [coreA,Int.reduceBEq,bzY8] <;> with_reducible rfl) | (with_reducible first | apply qzT | apply qzF | apply qzG | apply qzH) | ((with_reducible first | apply qzB | apply qzC | apply qzD); simp (disch:=omega) only [coreA,Int.reduceBEq,bzY8] <;> with_reducible rfl))
 exact ⟨_,rfl,rfl,g1.trans g2⟩
theorem f64_loop {β : Type} {k : Nat} {Q : β→Prop} {h0 : AH} {v fv : Value} {l : List AggD} {p : AggD→Bool} (S : Aggs h0 v l) (hl : l.length ≤ 1000)
  (hcall : ∀ c h,Grow h0 h→Tl (callV (eInv env k) fv #[AggD.v c] h) fun r=>r.1 = .bool (p c) ∧ Grow h r.2) {ke0 : Value→Value→Value→Value→Value→AH→Option β} {kr : Value→AH→Option β} (n : Nat) :
  ∀ {i j : Nat} {h : AH},i + n = l.length→n < j→Grow h0 h→((l.drop i).any p = false→∀ y1 y2 y3 y4 y5 h',Grow h0 h'→Tl (ke0 y1 y2 y3 y4 y5 h') Q)→((l.drop i).any p = true→∀ (m : Nat) h',Grow h0 h'→Tl (kr (.int .i64 (m : Nat)) h') Q) →
   Tl (F64_lrlr (eInv env k) k j v fv (.int .i64 l.length) (.int .i64 i) h ke0 kr) Q:=by
 induction n with
 | zero =>
  intro i j h hi hj g hk hr
  obtain ⟨j,rfl⟩ : ∃ q,j = q + 1:=⟨j - 1,by omega⟩
  simp only [F64_lrlr]
  repeat (first | (with_reducible apply qzV; simp (disch:=omega) only [coreA,Int.reduceBEq,bzY8] <;> with_reducible rfl) | (with_reducible first | apply qzT | apply qzF | apply qzG | apply qzH) | ((with_reducible first | apply qzB | apply qzC | apply qzD); simp (disch:=omega) only [coreA,Int.reduceBEq,bzY8] <;> with_reducible rfl))
  exact hk (by rw [List.drop_eq_nil_of_le (by omega)]; rfl) _ _ _ _ _ _ g
 | succ n ih =>
  intro i j h hi hj g hk hr
  obtain ⟨j,rfl⟩ : ∃ q,j = q + 1:=⟨j - 1,by omega⟩
  obtain ⟨x,ex⟩ : ∃ x,l[i]? = some x:=⟨_,List.getElem?_eq_getElem (by omega)⟩
  obtain ⟨b,o,hp,hrow⟩:=S.at_ ex
  have hrow':=g.row hrow
  have e : (i : Int) + 1 = ((i + 1 : Nat) : Int):=by omega
  rw [drop_at ex,List.any_cons] at hk hr
  simp only [F64_lrlr]
  repeat (first | (with_reducible apply qzV; simp (disch:=omega) only [coreA,Int.reduceBEq,bzY8,hp,hrow'] <;> with_reducible rfl) | (with_reducible first | apply qzT | apply qzF | apply qzG | apply qzH) | ((with_reducible first | apply qzB | apply qzC | apply qzD); simp (disch:=omega) only [coreA,Int.reduceBEq,bzY8,hp,hrow'] <;> with_reducible rfl))
  refine Tl.bind (hcall x h g) ?_
  rintro ⟨r,h1⟩ ⟨er,g1⟩
  simp only at er g1
  subst er
  cases q : p x with
  | true =>
   rw [q,Bool.true_or] at hr
   repeat (first | (with_reducible apply qzV; simp (disch:=omega) only [coreA,Int.reduceBEq,bzY8] <;> with_reducible rfl) | (with_reducible first | apply qzT | apply qzF | apply qzG | apply qzH) | ((with_reducible first | apply qzB | apply qzC | apply qzD); simp (disch:=omega) only [coreA,Int.reduceBEq,bzY8] <;> with_reducible rfl))
   exact hr rfl i _ (g.trans g1)
  | false =>
   rw [q,Bool.false_or] at hk hr
   repeat (first | (with_reducible apply qzV; simp (disch:=omega) only [coreA,Int.reduceBEq,bzY8] <;> with_reducible rfl) | (with_reducible first | apply qzT | apply qzF | apply qzG | apply qzH) | ((with_reducible first | apply qzB | apply qzC | apply qzD); simp (disch:=omega) only [coreA,Int.reduceBEq,bzY8] <;> with_reducible rfl))
   rw [e]
   exact ih (by omega) (by omega) (g.trans g1) hk hr
theorem f43c {k : Nat} {h : AH} {v fv : Value} {l : List AggD} {p : AggD→Bool} (S : Aggs h v l) (hl : l.length ≤ 1000) (hk : l.length < k) (hcall : ∀ c h',Grow h h'→Tl (callV (eInv env k) fv #[AggD.v c] h') fun r=>r.1 = .bool (p c) ∧ Grow h' r.2) :
  Tl (eInv env (k + 2) (.func 43) #[] #[v,fv] h) fun r=>r.1 = .bool (l.any p) ∧ Grow h r.2:=by
 rw [F43_call]
 unfold F43
 have hv : ∀ h',pLen Try.prog #[29] v h' = some (.int .i64 l.length):=fun h'=>S.len
 have T : Tl (eInv env (k + 1) (.func 64) #[] #[v,fv] h) fun r=>(∃ z : Int,r.1 = .int .i64 z ∧ (decide (z ≥ 0)) = l.any p) ∧ Grow h r.2:=by
  rw [F64_call]
  unfold F64
  repeat (first | (with_reducible apply qzV; simp (disch:=omega) only [coreA,Int.reduceBEq,bzY8,hv] <;> with_reducible rfl) | (with_reducible first | apply qzT | apply qzF | apply qzG | apply qzH) | ((with_reducible first | apply qzB | apply qzC | apply qzD); simp (disch:=omega) only [coreA,Int.reduceBEq,bzY8,hv] <;> with_reducible rfl))
  refine f64_loop S hl hcall l.length (i:=0) (by omega) hk (Grow.refl _) (fun q y1 y2 y3 y4 y5 h' g=>?_) fun q m h' g=>?_
  ·exact ⟨_,rfl,⟨_,rfl,by rw [List.drop_zero] at q; rw [q]; rfl⟩,g⟩
  ·exact ⟨_,rfl,⟨_,rfl,by rw [List.drop_zero] at q; rw [q]; simp⟩,g⟩
 refine Tl.bind T ?_
 rintro ⟨r,h1⟩ ⟨⟨z,er,hz⟩,g⟩
 simp only at er g
 subst er
 repeat (first | (with_reducible apply qzV; simp (disch:=omega) only [coreA,Int.reduceBEq,bzY8] <;> with_reducible rfl) | (with_reducible first | apply qzT | apply qzF | apply qzG | apply qzH) | ((with_reducible first | apply qzB | apply qzC | apply qzD); simp (disch:=omega) only [coreA,Int.reduceBEq,bzY8] <;> with_reducible rfl))
 exact ⟨_,rfl,by rw [hz],g⟩
/-- Columns to group by: there, each once. -/
def byL (n : Nat) (by_ : List Int) : Nat→List Int→Bool
 | _,[]=>true
 | i,c :: l=>decide (0 ≤ c) && (decide (c < n) && (!(by_.take i).contains c && byL n by_ (i + 1) l))
def aggsOk (cols : List ColD) (by_ : List Int) (aggs : List AggD) : Bool :=
 colsOk cols && (decide (1 ≤ aggs.length) && (decide (aggs.length ≤ 8) && (decide (by_.length ≤ 8) && (byL cols.length by_ 0 by_ && !aggs.any fun a=>!mayA cols a))))
theorem ints_take {h : AH} {v : Value} {l : List Int} (S : IntsZ h v l) {i : Nat} (hi : i ≤ l.length) : ∃ v',(∀ h',pSlice Try.prog 24 v none (some (.int .i64 i)) none h' = some v') ∧ IntsZ h v' (l.take i):=by
 obtain ⟨v',h1,h2,_⟩:=SlZ.take S u24 sz3 (k:=.i64) (i:=i) (by unfold irows; simpa using hi)
 exact ⟨v',h1,by unfold irows at h2; rw [← List.map_take] at h2; exact h2⟩
theorem f20_loop {β : Type} {k : Nat} {Q : β→Prop} {h0 : AH} {bv cv av : Value} {cols : List ColD} {by_ : List Int} {bc : Nat} (C : Cols h0 cv cols) (B : IntsZ h0 bv by_) (hc : h0.cell bc 0 = some cv) (hl : by_.length ≤ 8) (hcl : cols.length ≤ 2 ^ 40)
  {ke0 : Value→Value→Value→Value→Value→Value→Value→AH→Option β} {kr : Value→AH→Option β} (hk8 : 8 < k) (n : Nat) :
  ∀ {i j : Nat},i + n = by_.length→n < j→(byL cols.length by_ i (by_.drop i) = true→∀ y1 y2 y3 y4,Tl (ke0 bv av (.pointer (some ⟨bc,0,none⟩)) y1 y2 y3 y4 h0) Q)→(byL cols.length by_ i (by_.drop i) = false→Tl (kr (.int .i64 200) h0) Q) →
   Tl (F20_lrlrrr (eInv env (k + 2)) (k + 2) j bv av (.pointer (some ⟨bc,0,none⟩)) bv (.int .i64 by_.length) (.int .i64 i) h0 ke0 kr) Q:=by
 have hv : ∀ h',pLen Try.prog #[22] cv h' = some (.int .i64 cols.length):=fun h'=>C.len
 induction n with
 | zero =>
  intro i j hi hj hk hr
  obtain ⟨j,rfl⟩ : ∃ q,j = q + 1:=⟨j - 1,by omega⟩
  simp only [F20_lrlrrr]
  repeat (first | (with_reducible apply qzV; simp (disch:=omega) only [coreA,Int.reduceBEq,bzY8] <;> with_reducible rfl) | (with_reducible first | apply qzT | apply qzF | apply qzG | apply qzH) | ((with_reducible first | apply qzB | apply qzC | apply qzD); simp (disch:=omega) only [coreA,Int.reduceBEq,bzY8] <;> with_reducible rfl))
  exact hk (by rw [List.drop_eq_nil_of_le (by omega)]; rfl) _ _ _ _
 | succ n ih =>
  intro i j hi hj hk hr
  obtain ⟨j,rfl⟩ : ∃ q,j = q + 1:=⟨j - 1,by omega⟩
  obtain ⟨c,ec⟩ : ∃ x,by_[i]? = some x:=⟨_,List.getElem?_eq_getElem (by omega)⟩
  obtain ⟨b,o,hp,hcell⟩:=B.at_ ec
  have e : (i : Int) + 1 = ((i + 1 : Nat) : Int):=by omega
  obtain ⟨v',hsl,B'⟩:=ints_take B (i:=i) (by omega)
  rw [drop_at ec] at hk hr
  simp only [byL] at hk hr
  simp only [F20_lrlrrr,G20_9]
  by_cases q1 : 0 ≤ c
  ·rw [decide_eq_true q1,Bool.true_and] at hk hr
   by_cases q2 : c < cols.length
   ·rw [decide_eq_true q2,Bool.true_and] at hk hr
    have hct:=f42e (k:=k) B' c (by rw [List.length_take]; omega) (by rw [List.length_take]; omega)
    cases q3 : (by_.take i).contains c with
    | true =>
     rw [q3] at hk hr hct
     repeat (first | (with_reducible apply qzV; simp (disch:=omega) only [coreA,Int.reduceBEq,bzY8,hp,hcell,hc,hv,hsl,hct] <;> with_reducible rfl) | (with_reducible first | apply qzT | apply qzF | apply qzG | apply qzH) | ((with_reducible first | apply qzB | apply qzC | apply qzD); simp (disch:=omega) only [coreA,Int.reduceBEq,bzY8,hp,hcell,hc,hv,hsl,hct] <;> with_reducible rfl))
     exact hr rfl
    | false =>
     rw [q3] at hk hr hct
     repeat (first | (with_reducible apply qzV; simp (disch:=omega) only [coreA,Int.reduceBEq,bzY8,hp,hcell,hc,hv,hsl,hct] <;> with_reducible rfl) | (with_reducible first | apply qzT | apply qzF | apply qzG | apply qzH) | ((with_reducible first | apply qzB | apply qzC | apply qzD); simp (disch:=omega) only [coreA,Int.reduceBEq,bzY8,hp,hcell,hc,hv,hsl,hct] <;> with_reducible rfl))
     rw [e]
     exact ih (by omega) (by omega) hk hr
   ·rw [decide_eq_false q2,Bool.false_and] at hk hr
    repeat (first | (with_reducible apply qzV; simp (disch:=omega) only [coreA,Int.reduceBEq,bzY8,hp,hcell,hc,hv] <;> with_reducible rfl) | (with_reducible first | apply qzT | apply qzF | apply qzG | apply qzH) | ((with_reducible first | apply qzB | apply qzC | apply qzD); simp (disch:=omega) only [coreA,Int.reduceBEq,bzY8,hp,hcell,hc,hv] <;> with_reducible rfl))
    exact hr rfl
  ·rw [decide_eq_false q1,Bool.false_and] at hk hr
   repeat (first | (with_reducible apply qzV; simp (disch:=omega) only [coreA,Int.reduceBEq,bzY8,hp,hcell,hc,hv] <;> with_reducible rfl) | (with_reducible first | apply qzT | apply qzF | apply qzG | apply qzH) | ((with_reducible first | apply qzB | apply qzC | apply qzD); simp (disch:=omega) only [coreA,Int.reduceBEq,bzY8,hp,hcell,hc,hv] <;> with_reducible rfl))
   exact hr rfl
def aggsE (cols : List ColD) (by_ : List Int) (aggs : List AggD) : Int:=if colsE cols = 0 then (if aggsOk cols by_ aggs = true then 0 else 200) else colsE cols
theorem aggsE_zero (cols : List ColD) (by_ : List Int) (aggs : List AggD) : aggsE cols by_ aggs = 0 ↔ aggsOk cols by_ aggs = true:=by
 unfold aggsE
 by_cases q : colsE cols = 0
 ·rw [if_pos q]
  cases aggsOk cols by_ aggs <;> simp
 ·rw [if_neg q]
  have : colsOk cols = false:=by
   cases hf : colsOk cols with
   | false=>rfl
   | true=>exact absurd ((colsE_zero cols).2 hf) q
  unfold aggsOk
  rw [this]
  simp [q]
theorem f20x {k : Nat} {h : AH} {cv bv av : Value} {cols : List ColD} {by_ : List Int} {aggs : List AggD} (C : Cols h cv cols) (B : IntsZ h bv by_) (G : Aggs h av aggs) (hcl : cols.length ≤ 2 ^ 40) (hbl : by_.length ≤ 2 ^ 40) (hal : aggs.length ≤ 2 ^ 40) :
  Tl (eInv env (k + 300) (.func 20) #[] #[cv,bv,av] h) fun r=>r.1 = .int .i64 (aggsE cols by_ aggs) ∧ Grow h r.2:=by
 rw [F20_call]
 unfold F20
 obtain ⟨ca,cc,hcv,-⟩:=C.form
 refine Tl.box' (Stt.init h) (by rw [hcv]; rfl) (by rw [sz22]; rfl) fun b1 h1 S1 g1=>?_
 have c0 : h1.cell b1 0 = some cv:=by refine S1.cell 0 rfl ?_; rw [hcv]; rfl
 have hv : ∀ h',pLen Try.prog #[24] bv h' = some (.int .i64 by_.length):=fun h'=>B.len
 have hv2 : ∀ h',pLen Try.prog #[29] av h' = some (.int .i64 aggs.length):=fun h'=>G.len
 repeat (first | (with_reducible apply qzV; simp (disch:=omega) only [coreA,Int.reduceBEq,bzY8,c0] <;> with_reducible rfl) | (with_reducible first | apply qzT | apply qzF | apply qzG | apply qzH) | ((with_reducible first | apply qzB | apply qzC | apply qzD); simp (disch:=omega) only [coreA,Int.reduceBEq,bzY8,c0] <;> with_reducible rfl))
 refine Tl.bind (f41x (k:=k + 98) (C.grow g1) (by omega)) ?_
 rintro ⟨r,h2⟩ ⟨er,g2⟩
 simp only at er g2
 subst er
 have g12:=g1.trans g2
 unfold aggsE aggsOk
 by_cases q : colsE cols = 0
 ·have qq : (colsE cols != 0) = false:=bne_f q
  rw [if_pos q,(colsE_zero cols).1 q,Bool.true_and]
  simp only [G20_4]
  by_cases q1 : 1 ≤ aggs.length
  ·by_cases q2 : aggs.length ≤ 8
   ·by_cases q3 : by_.length ≤ 8
    ·rw [decide_eq_true q1,decide_eq_true q2,decide_eq_true q3,Bool.true_and,Bool.true_and,Bool.true_and]
     repeat (first | (with_reducible apply qzV; simp (disch:=omega) only [coreA,Int.reduceBEq,bzY8,qq,hv,hv2] <;> with_reducible rfl) | (with_reducible first | apply qzT | apply qzF | apply qzG | apply qzH) | ((with_reducible first | apply qzB | apply qzC | apply qzD); simp (disch:=omega) only [coreA,Int.reduceBEq,bzY8,qq,hv,hv2] <;> with_reducible rfl))
     refine f20_loop (k:=k + 297) (C.grow g12) (B.grow g12) (g2.cell c0) q3 hcl (by omega) by_.length (i:=0) (by omega) (by omega) (fun q4 y1 y2 y3 y4=>?_) fun q4=>?_
     ·rw [List.drop_zero] at q4
      rw [q4,Bool.true_and]
      have mf : pMakeFunc (.func 44) #[] #[.pointer (some ⟨b1,0,none⟩)] = some (.func (.func 44) #[] #[.pointer (some ⟨b1,0,none⟩)]):=rfl
      rw [mf,bnd_some]
      refine Tl.bind (f43c (k:=k + 297) (p:=fun a=>!mayA cols a) (G.grow g12) (by omega) (by omega) fun a h' g'=>f44c (k:=k + 295) a (g'.cell (g2.cell c0)) ((C.grow g12).grow g') hcl) ?_
      rintro ⟨r,h3⟩ ⟨er,g3⟩
      simp only at er g3
      subst er
      cases q5 : aggs.any fun a=>!mayA cols a with
      | true =>
       repeat (first | (with_reducible apply qzV; simp (disch:=omega) only [coreA,Int.reduceBEq,bzY8] <;> with_reducible rfl) | (with_reducible first | apply qzT | apply qzF | apply qzG | apply qzH) | ((with_reducible first | apply qzB | apply qzC | apply qzD); simp (disch:=omega) only [coreA,Int.reduceBEq,bzY8] <;> with_reducible rfl))
       exact ⟨_,rfl,rfl,g12.trans g3⟩
      | false =>
       repeat (first | (with_reducible apply qzV; simp (disch:=omega) only [coreA,Int.reduceBEq,bzY8] <;> with_reducible rfl) | (with_reducible first | apply qzT | apply qzF | apply qzG | apply qzH) | ((with_reducible first | apply qzB | apply qzC | apply qzD); simp (disch:=omega) only [coreA,Int.reduceBEq,bzY8] <;> with_reducible rfl))
       exact ⟨_,rfl,rfl,g12.trans g3⟩
     ·rw [List.drop_zero] at q4
      rw [q4,Bool.false_and]
      exact ⟨_,rfl,rfl,g12⟩
    ·rw [decide_eq_false q3,Bool.false_and,Bool.and_false,Bool.and_false]
     repeat (first | (with_reducible apply qzV; simp (disch:=omega) only [coreA,Int.reduceBEq,bzY8,qq,hv,hv2] <;> with_reducible rfl) | (with_reducible first | apply qzT | apply qzF | apply qzG | apply qzH) | ((with_reducible first | apply qzB | apply qzC | apply qzD); simp (disch:=omega) only [coreA,Int.reduceBEq,bzY8,qq,hv,hv2] <;> with_reducible rfl))
     exact ⟨_,rfl,rfl,g12⟩
   ·rw [decide_eq_false q2,Bool.false_and,Bool.and_false]
    repeat (first | (with_reducible apply qzV; simp (disch:=omega) only [coreA,Int.reduceBEq,bzY8,qq,hv,hv2] <;> with_reducible rfl) | (with_reducible first | apply qzT | apply qzF | apply qzG | apply qzH) | ((with_reducible first | apply qzB | apply qzC | apply qzD); simp (disch:=omega) only [coreA,Int.reduceBEq,bzY8,qq,hv,hv2] <;> with_reducible rfl))
    exact ⟨_,rfl,rfl,g12⟩
  ·rw [decide_eq_false q1,Bool.false_and]
   repeat (first | (with_reducible apply qzV; simp (disch:=omega) only [coreA,Int.reduceBEq,bzY8,qq,hv,hv2] <;> with_reducible rfl) | (with_reducible first | apply qzT | apply qzF | apply qzG | apply qzH) | ((with_reducible first | apply qzB | apply qzC | apply qzD); simp (disch:=omega) only [coreA,Int.reduceBEq,bzY8,qq,hv,hv2] <;> with_reducible rfl))
   exact ⟨_,rfl,rfl,g12⟩
 ·have qq : (colsE cols != 0) = true:=bne_t q
  rw [if_neg q]
  repeat (first | (with_reducible apply qzV; simp (disch:=omega) only [coreA,Int.reduceBEq,bzY8,qq] <;> with_reducible rfl) | (with_reducible first | apply qzT | apply qzF | apply qzG | apply qzH) | ((with_reducible first | apply qzB | apply qzC | apply qzD); simp (disch:=omega) only [coreA,Int.reduceBEq,bzY8,qq] <;> with_reducible rfl))
  exact ⟨_,rfl,rfl,g12⟩
/-! ### Copies -/
theorem nlK {x y : Operand} : pBin Try.prog .eql 22 x y (.slice none 0 0) (.slice none 0 0) = some (.bool true):=by kernel_rfl
theorem slK {x y : Operand} {a : Addr} {n c : Nat} : pBin Try.prog .eql 22 x y (.slice (some a) n c) (.slice none 0 0) = some (.bool false):=by kernel_rfl
theorem bsK0 (h : AH) : pBuildSlice Try.prog 22 0 #[] h = some (.slice (some ⟨h.n,0,none⟩) 0 0,h.alloc (.cells [] 42 true)):=by kernel_rfl
theorem appK : AppT Try.prog #[22,22] 42 3 32:=⟨by kernel_rfl,⟨42,by kernel_rfl⟩,by kernel_rfl,by omega,by kernel_rfl,⟨_,ze42,rfl,rfl⟩⟩
theorem nlA {x y : Operand} : pBin Try.prog .eql 29 x y (.slice none 0 0) (.slice none 0 0) = some (.bool true):=by kernel_rfl
theorem slA {x y : Operand} {a : Addr} {n c : Nat} : pBin Try.prog .eql 29 x y (.slice (some a) n c) (.slice none 0 0) = some (.bool false):=by kernel_rfl
theorem bsA0 (h : AH) : pBuildSlice Try.prog 29 0 #[] h = some (.slice (some ⟨h.n,0,none⟩) 0 0,h.alloc (.cells [] 28 true)):=by kernel_rfl
theorem appA : AppT Try.prog #[29,29] 28 2 16:=⟨by kernel_rfl,⟨28,by kernel_rfl⟩,by kernel_rfl,by omega,by kernel_rfl,⟨_,ze28,rfl,rfl⟩⟩
theorem sttZ {n0 n : Nat} {e : TypeId} {h0 h : AH} {L : List (Nat × AO)} {O : List OS} (S : Stt Try.prog n0 h0 h L O) (hs : szT Try.prog e = some n) : Stt Try.prog n0 h0 (h.alloc (.cells [] e true)) L ((.slice (some ⟨h.n,0,none⟩) 0 0,n,[]) :: O):=by
 have X : OwnB Try.prog h.n (h.alloc (.cells [] e true)) (.slice (some ⟨h.n,0,none⟩) 0 0) n [] :=
  .inr ⟨h.n,Nat.le_refl _,⟨rfl,⟨⟨[],e,AH.get_alloc_new _ _,fun hq=>absurd rfl hq⟩,fun r hr=>by cases hr⟩,szOk_of (AH.get_alloc_new _ _) hs⟩⟩
 exact S.gain (Grow.alloc h _) X
theorem one_cols : ∀ l : List ColD,(l.map colrow).flatten.all oneCell = true
 | []=>rfl
 | a :: l=>by
  rw [List.map_cons,List.flatten_cons,List.all_append,one_cols l]
  rfl
theorem one_aggs : ∀ l : List AggD,(l.map arow).flatten.all oneCell = true
 | []=>rfl
 | a :: l=>by
  rw [List.map_cons,List.flatten_cons,List.all_append,one_aggs l]
  rfl
theorem slz_nil {h : AH} {n : Nat} {rows : List (List Value)} (B : SlZ Try.prog h (.slice none 0 0) n rows) : rows = []:=by
 obtain ⟨a,c,e,_⟩:=SlZ.form B
 cases rows with
 | nil=>rfl
 | cons x l=>simp at e
theorem slz_some {h : AH} {n : Nat} {v : Value} {rows : List (List Value)} (B : SlZ Try.prog h v n rows) (q : ¬ v = .slice none 0 0) : ∃ a n c,v = .slice (some a) n c:=by
 rcases B with (⟨e,_⟩ | ⟨b,off,cap,own,e,_⟩) | ⟨_,a,e⟩
 ·exact absurd e q
 ·exact ⟨_,_,_,e⟩
 ·exact ⟨_,_,_,e⟩
section
variable {k : Nat} {n0 : Nat} {h0 h : AH} {L : List (Nat × AO)} {O : List OS} {v : Value}
theorem f36c {l : List ColD} (S : Stt Try.prog n0 h0 h L O) (B : Cols h v l) (hl : l.length ≤ 2 ^ 30) :
  Tl (eInv env (k + 1) (.func 36) #[] #[v] h) fun r=>Stt Try.prog n0 h0 r.2 L ((r.1,3,l.map colrow) :: O):=by
 rw [F36_call]
 unfold F36
 by_cases q : v = .slice none 0 0
 ·subst q
  have e:=slz_nil B
  repeat (first | (with_reducible apply qzV; simp (disch:=omega) only [coreA,Int.reduceBEq,bzY8,nlK] <;> with_reducible rfl) | (with_reducible first | apply qzT | apply qzF | apply qzG | apply qzH) | ((with_reducible first | apply qzB | apply qzC | apply qzD); simp (disch:=omega) only [coreA,Int.reduceBEq,bzY8,nlK] <;> with_reducible rfl))
  rw [e]
  exact ⟨_,rfl,S.nil 3⟩
 ·obtain ⟨a,n,c,rfl⟩:=slz_some B q
  obtain ⟨v',h',e1,e2⟩:=(sttZ S sz42).appendZ 0 rfl appK (SlZ.grow B (Grow.alloc h _)) (by simp; omega) (one_cols l)
  repeat (first | (with_reducible apply qzV; simp (disch:=omega) only [coreA,Int.reduceBEq,bzY8,slK,bsK0,e1] <;> with_reducible rfl) | (with_reducible first | apply qzT | apply qzF | apply qzG | apply qzH) | ((with_reducible first | apply qzB | apply qzC | apply qzD); simp (disch:=omega) only [coreA,Int.reduceBEq,bzY8,slK,bsK0,e1] <;> with_reducible rfl))
  exact ⟨_,rfl,e2⟩
theorem f38c {l : List AggD} (S : Stt Try.prog n0 h0 h L O) (B : Aggs h v l) (hl : l.length ≤ 2 ^ 30) :
  Tl (eInv env (k + 1) (.func 38) #[] #[v] h) fun r=>Stt Try.prog n0 h0 r.2 L ((r.1,2,l.map arow) :: O):=by
 rw [F38_call]
 unfold F38
 by_cases q : v = .slice none 0 0
 ·subst q
  have e:=slz_nil B
  repeat (first | (with_reducible apply qzV; simp (disch:=omega) only [coreA,Int.reduceBEq,bzY8,nlA] <;> with_reducible rfl) | (with_reducible first | apply qzT | apply qzF | apply qzG | apply qzH) | ((with_reducible first | apply qzB | apply qzC | apply qzD); simp (disch:=omega) only [coreA,Int.reduceBEq,bzY8,nlA] <;> with_reducible rfl))
  rw [e]
  exact ⟨_,rfl,S.nil 2⟩
 ·obtain ⟨a,n,c,rfl⟩:=slz_some B q
  obtain ⟨v',h',e1,e2⟩:=(sttZ S sz28).appendZ 0 rfl appA (SlZ.grow B (Grow.alloc h _)) (by simp; omega) (one_aggs l)
  repeat (first | (with_reducible apply qzV; simp (disch:=omega) only [coreA,Int.reduceBEq,bzY8,slA,bsA0,e1] <;> with_reducible rfl) | (with_reducible first | apply qzT | apply qzF | apply qzG | apply qzH) | ((with_reducible first | apply qzB | apply qzC | apply qzD); simp (disch:=omega) only [coreA,Int.reduceBEq,bzY8,slA,bsA0,e1] <;> with_reducible rfl))
  exact ⟨_,rfl,e2⟩
end
end Go.Proofs.Ytgklcfnjahomjaa.Sh
