/- Which aggregates may be, as the document tells it ('ref20.Check'). -/
import Derived.Test.YtgklcfnjahomjaaSzY20
set_option linter.unusedVariables false
set_option linter.unusedSimpArgs false
set_option maxRecDepth 100000
namespace Go.Proofs.Ytgklcfnjahomjaa.Sh
open Go Go.RowKit Go.Proofs.Ev
theorem bzY21 : type_of% (And.intro @ld3 (And.intro @ld2 (And.intro @ld9 (And.intro @ld37 (And.intro @ld28 (And.intro @ld42 (And.intro @ld34 (And.intro @ld22 (And.intro @ld24 (And.intro @ld23 (And.intro @ld29 (And.intro @fa37_0 (And.intro @fa37_1 (And.intro @fa37_2 (And.intro @fa28_0 (And.intro @fa28_1 (And.intro @fa42_0 (And.intro @fa42_1 (And.intro @fa42_2 (And.intro @nilC (And.intro @ex2_0 (And.intro @ex2_1 (@Nat.add_zero))))))))))))))))))))))):=And.intro @ld3 (And.intro @ld2 (And.intro @ld9 (And.intro @ld37 (And.intro @ld28 (And.intro @ld42 (And.intro @ld34 (And.intro @ld22 (And.intro @ld24 (And.intro @ld23 (And.intro @ld29 (And.intro @fa37_0 (And.intro @fa37_1 (And.intro @fa37_2 (And.intro @fa28_0 (And.intro @fa28_1 (And.intro @fa42_0 (And.intro @fa42_1 (And.intro @fa42_2 (And.intro @nilC (And.intro @ex2_0 (And.intro @ex2_1 (@Nat.add_zero))))))))))))))))))))))
section
variable {β : Type} {Q : β→Prop}
theorem f19_in {inv : Inv} {k : Nat} {h : AH} {cv bv av : Value} {by_ : List Int} {i : Nat} {c : Int} (B : IntsZ h bv by_) (hl : by_.length ≤ 8) (hc : by_[i]? = some c) {ke2 : Value→Value→Value→Value→Value→Value→AH→Option β} {kr : Value→AH→Option β} (n : Nat) :
  ∀ {q j : Nat},q + n = i→n < j→(((by_.take i).drop q).contains c = false→∀ y1 y2,Tl (ke2 cv bv av (.int .i64 i) y1 y2 h) Q)→(((by_.take i).drop q).contains c = true→Tl (kr (.int .i64 200) h) Q) →
   Tl (F19_lrrllrllrlrrrr inv k j cv bv av (.int .i64 i) (.int .i64 q) h ke2 kr) Q:=by
 have hil:=(List.getElem?_eq_some_iff.1 hc).1
 obtain ⟨bc,oc,hpc,cc⟩:=B.at_ hc
 induction n with
 | zero =>
  intro q j hq hj hk hr
  obtain ⟨j,rfl⟩ : ∃ q,j = q + 1:=⟨j - 1,by omega⟩
  simp only [F19_lrrllrllrlrrrr]
  repeat (first | (with_reducible apply qzV; simp (disch:=omega) only [coreA,Int.reduceBEq,bzY21] <;> with_reducible rfl) | (with_reducible first | apply qzT | apply qzF | apply qzG | apply qzH) | ((with_reducible first | apply qzB | apply qzC | apply qzD); simp (disch:=omega) only [coreA,Int.reduceBEq,bzY21] <;> with_reducible rfl))
  exact hk (by rw [List.drop_eq_nil_of_le (by simp; omega)]; rfl) _ _
 | succ n ih =>
  intro q j hq hj hk hr
  obtain ⟨j,rfl⟩ : ∃ q,j = q + 1:=⟨j - 1,by omega⟩
  obtain ⟨x,ex⟩ : ∃ x,by_[q]? = some x:=⟨_,List.getElem?_eq_getElem (by omega)⟩
  have ex' : (by_.take i)[q]? = some x:=by rw [List.getElem?_take_of_lt (by omega)]; exact ex
  obtain ⟨b,o,hp,c0⟩:=B.at_ ex
  have e : (q : Int) + 1 = ((q + 1 : Nat) : Int):=by omega
  simp only [F19_lrrllrllrlrrrr]
  rw [drop_at ex',List.contains_cons] at hk hr
  by_cases q2 : x = c
  ·have q3 : (c == x) = true:=beq_t q2.symm
   have q4 : (x == c) = true:=beq_t q2
   rw [q3,Bool.true_or] at hr
   repeat (first | (with_reducible apply qzV; simp (disch:=omega) only [coreA,Int.reduceBEq,bzY21,hp,c0,hpc,cc,q4] <;> with_reducible rfl) | (with_reducible first | apply qzT | apply qzF | apply qzG | apply qzH) | ((with_reducible first | apply qzB | apply qzC | apply qzD); simp (disch:=omega) only [coreA,Int.reduceBEq,bzY21,hp,c0,hpc,cc,q4] <;> with_reducible rfl))
   exact hr rfl
  ·have q3 : (c == x) = false:=beq_f (fun h=>q2 h.symm)
   have q4 : (x == c) = false:=beq_f q2
   rw [q3,Bool.false_or] at hk hr
   repeat (first | (with_reducible apply qzV; simp (disch:=omega) only [coreA,Int.reduceBEq,bzY21,hp,c0,hpc,cc,q4] <;> with_reducible rfl) | (with_reducible first | apply qzT | apply qzF | apply qzG | apply qzH) | ((with_reducible first | apply qzB | apply qzC | apply qzD); simp (disch:=omega) only [coreA,Int.reduceBEq,bzY21,hp,c0,hpc,cc,q4] <;> with_reducible rfl))
   rw [e]
   exact ih (by omega) (by omega) hk hr
theorem f19_by {inv : Inv} {k : Nat} {h : AH} {cv bv av : Value} {cols : List ColD} {by_ : List Int} (C : Cols h cv cols) (B : IntsZ h bv by_) (hl : by_.length ≤ 8) (hcl : cols.length ≤ 2 ^ 40) (hk8 : 8 < k)
  {ke0 : Value→Value→Value→Value→Value→AH→Option β} {kr : Value→AH→Option β} (n : Nat) :
  ∀ {i j : Nat},i + n = by_.length→n < j→(byL cols.length by_ i (by_.drop i) = true→∀ y1 y2,Tl (ke0 cv bv av y1 y2 h) Q)→(byL cols.length by_ i (by_.drop i) = false→Tl (kr (.int .i64 200) h) Q) →
   Tl (F19_lrlrrrr inv k j cv bv av (.int .i64 i) h ke0 kr) Q:=by
 have hv : ∀ h',pLen Try.prog #[22] cv h' = some (.int .i64 cols.length):=fun h'=>C.len
 have hb : ∀ h',pLen Try.prog #[24] bv h' = some (.int .i64 by_.length):=fun h'=>B.len
 induction n with
 | zero =>
  intro i j hi hj hk hr
  obtain ⟨j,rfl⟩ : ∃ q,j = q + 1:=⟨j - 1,by omega⟩
  simp only [F19_lrlrrrr]
  repeat (first | (with_reducible apply qzV; simp (disch:=omega) only [coreA,Int.reduceBEq,bzY21,hb] <;> with_reducible rfl) | (with_reducible first | apply qzT | apply qzF | apply qzG | apply qzH) | ((with_reducible first | apply qzB | apply qzC | apply qzD); simp (disch:=omega) only [coreA,Int.reduceBEq,bzY21,hb] <;> with_reducible rfl))
  exact hk (by rw [List.drop_eq_nil_of_le (by omega)]; rfl) _ _
 | succ n ih =>
  intro i j hi hj hk hr
  obtain ⟨j,rfl⟩ : ∃ q,j = q + 1:=⟨j - 1,by omega⟩
  obtain ⟨c,ec⟩ : ∃ x,by_[i]? = some x:=⟨_,List.getElem?_eq_getElem (by omega)⟩
  obtain ⟨b,o,hp,hcell⟩:=B.at_ ec
  have e : (i : Int) + 1 = ((i + 1 : Nat) : Int):=by omega
  rw [drop_at ec] at hk hr
  simp only [byL] at hk hr
  simp only [F19_lrlrrrr,G19_9]
  by_cases q1 : 0 ≤ c
  ·rw [decide_eq_true q1,Bool.true_and] at hk hr
   by_cases q2 : c < cols.length
   ·rw [decide_eq_true q2,Bool.true_and] at hk hr
    repeat (first | (with_reducible apply qzV; simp (disch:=omega) only [coreA,Int.reduceBEq,bzY21,hb,hp,hcell,hv] <;> with_reducible rfl) | (with_reducible first | apply qzT | apply qzF | apply qzG | apply qzH) | ((with_reducible first | apply qzB | apply qzC | apply qzD); simp (disch:=omega) only [coreA,Int.reduceBEq,bzY21,hb,hp,hcell,hv] <;> with_reducible rfl))
    refine f19_in B hl ec i (q:=0) (by omega) (by omega) (fun q3 y1 y2=>?_) fun q3=>?_
    ·rw [List.drop_zero] at q3
     rw [q3,Bool.not_false,Bool.true_and] at hk hr
     repeat (first | (with_reducible apply qzV; simp (disch:=omega) only [coreA,Int.reduceBEq,bzY21] <;> with_reducible rfl) | (with_reducible first | apply qzT | apply qzF | apply qzG | apply qzH) | ((with_reducible first | apply qzB | apply qzC | apply qzD); simp (disch:=omega) only [coreA,Int.reduceBEq,bzY21] <;> with_reducible rfl))
     rw [e]
     exact ih (by omega) (by omega) hk hr
    ·rw [List.drop_zero] at q3
     rw [q3,Bool.not_true,Bool.false_and] at hr
     exact hr rfl
   ·rw [decide_eq_false q2,Bool.false_and] at hr
    repeat (first | (with_reducible apply qzV; simp (disch:=omega) only [coreA,Int.reduceBEq,bzY21,hb,hp,hcell,hv] <;> with_reducible rfl) | (with_reducible first | apply qzT | apply qzF | apply qzG | apply qzH) | ((with_reducible first | apply qzB | apply qzC | apply qzD); simp (disch:=omega) only [coreA,Int.reduceBEq,bzY21,hb,hp,hcell,hv] <;> with_reducible rfl))
    exact hr rfl
  ·rw [decide_eq_false q1,Bool.false_and] at hr
   repeat (first | (with_reducible apply qzV; simp (disch:=omega) only [coreA,Int.reduceBEq,bzY21,hb,hp,hcell,hv] <;> with_reducible rfl) | (with_reducible first | apply qzT | apply qzF | apply qzG | apply qzH) | ((with_reducible first | apply qzB | apply qzC | apply qzD); simp (disch:=omega) only [coreA,Int.reduceBEq,bzY21,hb,hp,hcell,hv] <;> with_reducible rfl))
   exact hr rfl
theorem f19_one {k : Nat} {h0 h : AH} {cv av x68 : Value} {cols : List ColD} {aggs : List AggD} {i : Nat} {a : AggD} (C : Cols h0 cv cols) (G : Aggs h0 av aggs) (ea : aggs[i]? = some a) (hcl : cols.length ≤ 2 ^ 40) (hi : i ≤ 1000) (g : Grow h0 h)
  {kn : Value→Value→Value→Value→Value→Value→Value→Value→AH→Option β} {kr : Value→AH→Option β}
  (hk : mayA cols a = true→∀ h' y1 y2 y3 y4 y5,Grow h0 h'→Tl (kn cv av (.int .i64 i) y1 y2 y3 y4 y5 h') Q) (hr : mayA cols a = false→∀ h',Grow h0 h'→Tl (kr (.int .i64 200) h') Q) :
  Tl (F19_lrllrlrrrrr (eInv env k) k cv av (.int .i64 i) x68 h kn kr) Q:=by
 have hv : ∀ h',pLen Try.prog #[22] cv h' = some (.int .i64 cols.length):=fun h'=>C.len
 obtain ⟨b,o,hp,hrow0⟩:=G.at_ ea
 have hrow:=g.row hrow0
 simp only [F19_lrllrlrrrrr]
 repeat (first | (with_reducible apply qzV; simp (disch:=omega) only [coreA,Int.reduceBEq,bzY21,hp,hrow] <;> with_reducible rfl) | (with_reducible first | apply qzT | apply qzF | apply qzG | apply qzH) | ((with_reducible first | apply qzB | apply qzC | apply qzD); simp (disch:=omega) only [coreA,Int.reduceBEq,bzY21,hp,hrow] <;> with_reducible rfl))
 refine Tl.alloc' (Stt.init h) ze28 (by rfl) fun b11 h1 S1 g1=>?_
 refine Tl.store' S1 0 rfl sz28 rfl rfl (by decide) fun h2 S2 _=>?_
 have S2 : Stt Try.prog h.n h h2 [(b11,.cells (arow a) 28 true)] []:=S2
 have c0 : h2.cell b11 0 = some (.int .i64 a.k):=S2.cell 0 rfl rfl
 have c1 : h2.cell b11 1 = some (.int .i64 a.c):=S2.cell 0 rfl rfl
 have g2:=g.trans S2.grow
 have C2:=C.grow g2
 -- whether the column is there
 have there : ∀ {K : Value→AH→Option β},Tl (K (.bool (thereA cols.length a.c)) h2) Q→Tl (G19_20 (eInv env k) cv av (.int .i64 i) (.pointer (some ⟨b11,0,none⟩)) h2 K) Q:=fun {K} hK=>by
  simp only [G19_20]
  by_cases q1 : 0 ≤ a.c
  ·by_cases q2 : a.c < cols.length
   ·have : thereA cols.length a.c = true:=by simp [thereA,q1,q2]
    rw [this] at hK
    repeat (first | (with_reducible apply qzV; simp (disch:=omega) only [coreA,Int.reduceBEq,bzY21,c1,hv] <;> with_reducible rfl) | (with_reducible first | apply qzT | apply qzF | apply qzG | apply qzH) | ((with_reducible first | apply qzB | apply qzC | apply qzD); simp (disch:=omega) only [coreA,Int.reduceBEq,bzY21,c1,hv] <;> with_reducible rfl))
    exact hK
   ·have : thereA cols.length a.c = false:=by simp [thereA,q2]
    rw [this] at hK
    repeat (first | (with_reducible apply qzV; simp (disch:=omega) only [coreA,Int.reduceBEq,bzY21,c1,hv] <;> with_reducible rfl) | (with_reducible first | apply qzT | apply qzF | apply qzG | apply qzH) | ((with_reducible first | apply qzB | apply qzC | apply qzD); simp (disch:=omega) only [coreA,Int.reduceBEq,bzY21,c1,hv] <;> with_reducible rfl))
    exact hK
  ·have : thereA cols.length a.c = false:=by simp [thereA,q1]
   rw [this] at hK
   repeat (first | (with_reducible apply qzV; simp (disch:=omega) only [coreA,Int.reduceBEq,bzY21,c1,hv] <;> with_reducible rfl) | (with_reducible first | apply qzT | apply qzF | apply qzG | apply qzH) | ((with_reducible first | apply qzB | apply qzC | apply qzD); simp (disch:=omega) only [coreA,Int.reduceBEq,bzY21,c1,hv] <;> with_reducible rfl))
   exact hK
 refine there ?_
 by_cases k1 : a.k = 1
 ·have em : mayA cols a = decide (a.c = 0):=by unfold mayA; rw [if_pos k1]
  by_cases z : a.c = 0
  ·simp only [G19_22]
   repeat (first | (with_reducible apply qzV; simp (disch:=omega) only [coreA,Int.reduceBEq,bzY21,c0,c1] <;> with_reducible rfl) | (with_reducible first | apply qzT | apply qzF | apply qzG | apply qzH) | ((with_reducible first | apply qzB | apply qzC | apply qzD); simp (disch:=omega) only [coreA,Int.reduceBEq,bzY21,c0,c1] <;> with_reducible rfl))
   exact hk (by rw [em,decide_eq_true z]) _ _ _ _ _ _ g2
  ·simp only [G19_22]
   repeat (first | (with_reducible apply qzV; simp (disch:=omega) only [coreA,Int.reduceBEq,bzY21,c0,c1] <;> with_reducible rfl) | (with_reducible first | apply qzT | apply qzF | apply qzG | apply qzH) | ((with_reducible first | apply qzB | apply qzC | apply qzD); simp (disch:=omega) only [coreA,Int.reduceBEq,bzY21,c0,c1] <;> with_reducible rfl))
   exact hr (by rw [em,decide_eq_false z]) _ g2
 by_cases k2 : a.k = 2
 ·have em : mayA cols a = (thereA cols.length a.c && decide (kindAt cols a.c = 1)):=by unfold mayA; rw [if_neg k1,if_pos k2]
  simp only [G19_22]
  repeat (first | (with_reducible apply qzV; simp (disch:=omega) only [coreA,Int.reduceBEq,bzY21,c0,c1] <;> with_reducible rfl) | (with_reducible first | apply qzT | apply qzF | apply qzG | apply qzH) | ((with_reducible first | apply qzB | apply qzC | apply qzD); simp (disch:=omega) only [coreA,Int.reduceBEq,bzY21,c0,c1] <;> with_reducible rfl))
  cases t : thereA cols.length a.c with
  | false =>
   rw [t,Bool.false_and] at em
   simp only [G19_23]
   repeat (first | (with_reducible apply qzV; simp (disch:=omega) only [coreA,Int.reduceBEq,bzY21,c0,c1] <;> with_reducible rfl) | (with_reducible first | apply qzT | apply qzF | apply qzG | apply qzH) | ((with_reducible first | apply qzB | apply qzC | apply qzD); simp (disch:=omega) only [coreA,Int.reduceBEq,bzY21,c0,c1] <;> with_reducible rfl))
   simp only [G19_24]
   repeat (first | (with_reducible apply qzV; simp (disch:=omega) only [coreA,Int.reduceBEq,bzY21,c0,c1] <;> with_reducible rfl) | (with_reducible first | apply qzT | apply qzF | apply qzG | apply qzH) | ((with_reducible first | apply qzB | apply qzC | apply qzD); simp (disch:=omega) only [coreA,Int.reduceBEq,bzY21,c0,c1] <;> with_reducible rfl))
   exact hr em _ g2
  | true =>
   rw [t,Bool.true_and] at em
   unfold thereA at t
   simp only [Bool.and_eq_true,decide_eq_true_eq] at t
   obtain ⟨m,hm⟩ : ∃ m : Nat,a.c = m:=⟨a.c.toNat,by omega⟩
   obtain ⟨x,ex⟩ : ∃ x,cols[m]? = some x:=⟨_,List.getElem?_eq_getElem (by omega)⟩
   obtain ⟨b',o',hp',hrow'⟩:=C2.at_ ex
   have ck:=cellR3 hrow'
   have ek : kindAt cols a.c = x.kind:=by unfold kindAt; rw [hm,Int.toNat_natCast,ex]; rfl
   rw [ek] at em
   rw [hm] at c1
   by_cases z : x.kind = 1
   ·simp only [G19_23]
    repeat (first | (with_reducible apply qzV; simp (disch:=omega) only [coreA,Int.reduceBEq,bzY21,c0,c1,hp',ck] <;> with_reducible rfl) | (with_reducible first | apply qzT | apply qzF | apply qzG | apply qzH) | ((with_reducible first | apply qzB | apply qzC | apply qzD); simp (disch:=omega) only [coreA,Int.reduceBEq,bzY21,c0,c1,hp',ck] <;> with_reducible rfl))
    exact hk (by rw [em,decide_eq_true z]) _ _ _ _ _ _ g2
   ·simp only [G19_23]
    repeat (first | (with_reducible apply qzV; simp (disch:=omega) only [coreA,Int.reduceBEq,bzY21,c0,c1,hp',ck] <;> with_reducible rfl) | (with_reducible first | apply qzT | apply qzF | apply qzG | apply qzH) | ((with_reducible first | apply qzB | apply qzC | apply qzD); simp (disch:=omega) only [coreA,Int.reduceBEq,bzY21,c0,c1,hp',ck] <;> with_reducible rfl))
    simp only [G19_24]
    repeat (first | (with_reducible apply qzV; simp (disch:=omega) only [coreA,Int.reduceBEq,bzY21,c0,c1] <;> with_reducible rfl) | (with_reducible first | apply qzT | apply qzF | apply qzG | apply qzH) | ((with_reducible first | apply qzB | apply qzC | apply qzD); simp (disch:=omega) only [coreA,Int.reduceBEq,bzY21,c0,c1] <;> with_reducible rfl))
    exact hr (by rw [em,decide_eq_false z]) _ g2
 by_cases k3 : a.k = 3
 ·have em : mayA cols a = thereA cols.length a.c:=by unfold mayA; rw [if_neg k1,if_neg k2,if_pos (.inl k3)]
  simp only [G19_22]
  repeat (first | (with_reducible apply qzV; simp (disch:=omega) only [coreA,Int.reduceBEq,bzY21,c0,c1] <;> with_reducible rfl) | (with_reducible first | apply qzT | apply qzF | apply qzG | apply qzH) | ((with_reducible first | apply qzB | apply qzC | apply qzD); simp (disch:=omega) only [coreA,Int.reduceBEq,bzY21,c0,c1] <;> with_reducible rfl))
  cases t : thereA cols.length a.c with
  | false =>
   repeat (first | (with_reducible apply qzV; simp (disch:=omega) only [coreA,Int.reduceBEq,bzY21,c0,c1] <;> with_reducible rfl) | (with_reducible first | apply qzT | apply qzF | apply qzG | apply qzH) | ((with_reducible first | apply qzB | apply qzC | apply qzD); simp (disch:=omega) only [coreA,Int.reduceBEq,bzY21,c0,c1] <;> with_reducible rfl))
   exact hr (em.trans t) _ g2
  | true =>
   repeat (first | (with_reducible apply qzV; simp (disch:=omega) only [coreA,Int.reduceBEq,bzY21,c0,c1] <;> with_reducible rfl) | (with_reducible first | apply qzT | apply qzF | apply qzG | apply qzH) | ((with_reducible first | apply qzB | apply qzC | apply qzD); simp (disch:=omega) only [coreA,Int.reduceBEq,bzY21,c0,c1] <;> with_reducible rfl))
   exact hk (em.trans t) _ _ _ _ _ _ g2
 by_cases k4 : a.k = 4
 ·have em : mayA cols a = thereA cols.length a.c:=by unfold mayA; rw [if_neg k1,if_neg k2,if_pos (.inr k4)]
  simp only [G19_22]
  repeat (first | (with_reducible apply qzV; simp (disch:=omega) only [coreA,Int.reduceBEq,bzY21,c0,c1] <;> with_reducible rfl) | (with_reducible first | apply qzT | apply qzF | apply qzG | apply qzH) | ((with_reducible first | apply qzB | apply qzC | apply qzD); simp (disch:=omega) only [coreA,Int.reduceBEq,bzY21,c0,c1] <;> with_reducible rfl))
  cases t : thereA cols.length a.c with
  | false =>
   repeat (first | (with_reducible apply qzV; simp (disch:=omega) only [coreA,Int.reduceBEq,bzY21,c0,c1] <;> with_reducible rfl) | (with_reducible first | apply qzT | apply qzF | apply qzG | apply qzH) | ((with_reducible first | apply qzB | apply qzC | apply qzD); simp (disch:=omega) only [coreA,Int.reduceBEq,bzY21,c0,c1] <;> with_reducible rfl))
   exact hr (em.trans t) _ g2
  | true =>
   repeat (first | (with_reducible apply qzV; simp (disch:=omega) only [coreA,Int.reduceBEq,bzY21,c0,c1] <;> with_reducible rfl) | (with_reducible first | apply qzT | apply qzF | apply qzG | apply qzH) | ((with_reducible first | apply qzB | apply qzC | apply qzD); simp (disch:=omega) only [coreA,Int.reduceBEq,bzY21,c0,c1] <;> with_reducible rfl))
   exact hk (em.trans t) _ _ _ _ _ _ g2
 ·have em : mayA cols a = false:=by unfold mayA; rw [if_neg k1,if_neg k2,if_neg (fun h=>h.elim k3 k4)]
  simp only [G19_22]
  repeat (first | (with_reducible apply qzV; simp (disch:=omega) only [coreA,Int.reduceBEq,bzY21,c0,c1] <;> with_reducible rfl) | (with_reducible first | apply qzT | apply qzF | apply qzG | apply qzH) | ((with_reducible first | apply qzB | apply qzC | apply qzD); simp (disch:=omega) only [coreA,Int.reduceBEq,bzY21,c0,c1] <;> with_reducible rfl))
  repeat (first | (with_reducible apply qzV; simp (disch:=omega) only [coreA,Int.reduceBEq,bzY21,c0,c1] <;> with_reducible rfl) | (with_reducible first | apply qzT | apply qzF | apply qzG | apply qzH) | ((with_reducible first | apply qzB | apply qzC | apply qzD); simp (disch:=omega) only [coreA,Int.reduceBEq,bzY21,c0,c1] <;> with_reducible rfl))
  exact hr em _ g2
theorem f19_aggs {k : Nat} {h0 : AH} {cv av : Value} {cols : List ColD} {aggs : List AggD} (C : Cols h0 cv cols) (G : Aggs h0 av aggs) (hl : aggs.length ≤ 8) (hcl : cols.length ≤ 2 ^ 40)
  {ke4 : Value→Value→Value→Value→AH→Option β} {kr : Value→AH→Option β} (n : Nat) :
  ∀ {i j : Nat} {h : AH},i + n = aggs.length→n < j→Grow h0 h→(((aggs.drop i).any fun a=>!mayA cols a) = false→∀ h' y1 y2 y3 y4,Grow h0 h'→Tl (ke4 y1 y2 y3 y4 h') Q)→(((aggs.drop i).any fun a=>!mayA cols a) = true→∀ h',Grow h0 h'→Tl (kr (.int .i64 200) h') Q) →
   Tl (F19_lrlrrrrr (eInv env k) k j cv av (.int .i64 i) h ke4 kr) Q:=by
 have ha : ∀ h',pLen Try.prog #[29] av h' = some (.int .i64 aggs.length):=fun h'=>G.len
 induction n with
 | zero =>
  intro i j h hi hj g hk hr
  obtain ⟨j,rfl⟩ : ∃ q,j = q + 1:=⟨j - 1,by omega⟩
  simp only [F19_lrlrrrrr]
  repeat (first | (with_reducible apply qzV; simp (disch:=omega) only [coreA,Int.reduceBEq,bzY21,ha] <;> with_reducible rfl) | (with_reducible first | apply qzT | apply qzF | apply qzG | apply qzH) | ((with_reducible first | apply qzB | apply qzC | apply qzD); simp (disch:=omega) only [coreA,Int.reduceBEq,bzY21,ha] <;> with_reducible rfl))
  exact hk (by rw [List.drop_eq_nil_of_le (by omega)]; rfl) _ _ _ _ _ g
 | succ n ih =>
  intro i j h hi hj g hk hr
  obtain ⟨j,rfl⟩ : ∃ q,j = q + 1:=⟨j - 1,by omega⟩
  obtain ⟨a,ea⟩ : ∃ x,aggs[i]? = some x:=⟨_,List.getElem?_eq_getElem (by omega)⟩
  have e : (i : Int) + 1 = ((i + 1 : Nat) : Int):=by omega
  rw [drop_at ea,List.any_cons] at hk hr
  simp only [F19_lrlrrrrr]
  repeat (first | (with_reducible apply qzV; simp (disch:=omega) only [coreA,Int.reduceBEq,bzY21,ha] <;> with_reducible rfl) | (with_reducible first | apply qzT | apply qzF | apply qzG | apply qzH) | ((with_reducible first | apply qzB | apply qzC | apply qzD); simp (disch:=omega) only [coreA,Int.reduceBEq,bzY21,ha] <;> with_reducible rfl))
  refine f19_one C G ea hcl (by omega) g (fun hm h' y1 y2 y3 y4 y5 g'=>?_) fun hm h' g'=>?_
  ·rw [hm,Bool.not_true,Bool.false_or] at hk hr
   repeat (first | (with_reducible apply qzV; simp (disch:=omega) only [coreA,Int.reduceBEq,bzY21] <;> with_reducible rfl) | (with_reducible first | apply qzT | apply qzF | apply qzG | apply qzH) | ((with_reducible first | apply qzB | apply qzC | apply qzD); simp (disch:=omega) only [coreA,Int.reduceBEq,bzY21] <;> with_reducible rfl))
   rw [e]
   exact ih (by omega) (by omega) g' hk hr
  ·rw [hm,Bool.not_false,Bool.true_or] at hr
   exact hr rfl _ g'
end
theorem f19x {k : Nat} {h : AH} {cv bv av : Value} {cols : List ColD} {by_ : List Int} {aggs : List AggD} (C : Cols h cv cols) (B : IntsZ h bv by_) (G : Aggs h av aggs) (hcl : cols.length ≤ 2 ^ 40) (hbl : by_.length ≤ 2 ^ 40) (hal : aggs.length ≤ 2 ^ 40) :
  Tl (eInv env (k + 300) (.func 19) #[] #[cv,bv,av] h) fun r=>r.1 = .int .i64 (aggsE cols by_ aggs) ∧ Grow h r.2:=by
 rw [F19_call]
 unfold F19 aggsE aggsOk
 have hv : ∀ h',pLen Try.prog #[24] bv h' = some (.int .i64 by_.length):=fun h'=>B.len
 have hv2 : ∀ h',pLen Try.prog #[29] av h' = some (.int .i64 aggs.length):=fun h'=>G.len
 have hc:=f40x (k:=k + 98) C (by omega)
 by_cases q : colsE cols = 0
 ·have qq : (colsE cols != 0) = false:=bne_f q
  rw [if_pos q,(colsE_zero cols).1 q,Bool.true_and]
  by_cases q1 : 1 ≤ aggs.length
  ·by_cases q2 : aggs.length ≤ 8
   ·by_cases q3 : by_.length ≤ 8
    ·rw [decide_eq_true q1,decide_eq_true q2,decide_eq_true q3,Bool.true_and,Bool.true_and,Bool.true_and]
     repeat (first | (with_reducible apply qzV; simp (disch:=omega) only [coreA,Int.reduceBEq,bzY21,hc,qq] <;> with_reducible rfl) | (with_reducible first | apply qzT | apply qzF | apply qzG | apply qzH) | ((with_reducible first | apply qzB | apply qzC | apply qzD); simp (disch:=omega) only [coreA,Int.reduceBEq,bzY21,hc,qq] <;> with_reducible rfl))
     simp only [G19_4]
     repeat (first | (with_reducible apply qzV; simp (disch:=omega) only [coreA,Int.reduceBEq,bzY21,hv,hv2] <;> with_reducible rfl) | (with_reducible first | apply qzT | apply qzF | apply qzG | apply qzH) | ((with_reducible first | apply qzB | apply qzC | apply qzD); simp (disch:=omega) only [coreA,Int.reduceBEq,bzY21,hv,hv2] <;> with_reducible rfl))
     refine f19_by C B q3 hcl (by omega) by_.length (i:=0) (by omega) (by omega) (fun q4 y1 y2=>?_) fun q4=>?_
     ·rw [List.drop_zero] at q4
      rw [q4,Bool.true_and]
      refine f19_aggs (k:=k + 299) C G q2 hcl aggs.length (i:=0) (by omega) (by omega) (Grow.refl _) (fun q5 h' z1 z2 z3 z4 g=>?_) fun q5 h' g=>?_
      ·rw [List.drop_zero] at q5
       rw [q5]
       exact ⟨_,rfl,rfl,g⟩
      ·rw [List.drop_zero] at q5
       rw [q5]
       exact ⟨_,rfl,rfl,g⟩
     ·rw [List.drop_zero] at q4
      rw [q4,Bool.false_and]
      exact ⟨_,rfl,rfl,Grow.refl _⟩
    ·rw [decide_eq_false q3,Bool.false_and,Bool.and_false,Bool.and_false]
     repeat (first | (with_reducible apply qzV; simp (disch:=omega) only [coreA,Int.reduceBEq,bzY21,hc,qq] <;> with_reducible rfl) | (with_reducible first | apply qzT | apply qzF | apply qzG | apply qzH) | ((with_reducible first | apply qzB | apply qzC | apply qzD); simp (disch:=omega) only [coreA,Int.reduceBEq,bzY21,hc,qq] <;> with_reducible rfl))
     simp only [G19_4]
     repeat (first | (with_reducible apply qzV; simp (disch:=omega) only [coreA,Int.reduceBEq,bzY21,hv,hv2] <;> with_reducible rfl) | (with_reducible first | apply qzT | apply qzF | apply qzG | apply qzH) | ((with_reducible first | apply qzB | apply qzC | apply qzD); simp (disch:=omega) only [coreA,Int.reduceBEq,bzY21,hv,hv2] <;> with_reducible rfl))
     exact ⟨_,rfl,rfl,Grow.refl _⟩
   ·rw [decide_eq_false q2,Bool.false_and,Bool.and_false]
    repeat (first | (with_reducible apply qzV; simp (disch:=omega) only [coreA,Int.reduceBEq,bzY21,hc,qq] <;> with_reducible rfl) | (with_reducible first | apply qzT | apply qzF | apply qzG | apply qzH) | ((with_reducible first | apply qzB | apply qzC | apply qzD); simp (disch:=omega) only [coreA,Int.reduceBEq,bzY21,hc,qq] <;> with_reducible rfl))
    simp only [G19_4]
    repeat (first | (with_reducible apply qzV; simp (disch:=omega) only [coreA,Int.reduceBEq,bzY21,hv,hv2] <;> with_reducible rfl) | (with_reducible first | apply qzT | apply qzF | apply qzG | apply qzH) | ((with_reducible first | apply qzB | apply qzC | apply qzD); simp (disch:=omega) only [coreA,Int.reduceBEq,bzY21,hv,hv2] <;> with_reducible rfl))
    exact ⟨_,rfl,rfl,Grow.refl _⟩
  ·rw [decide_eq_false q1,Bool.false_and]
   repeat (first | (with_reducible apply qzV; simp (disch:=omega) only [coreA,Int.reduceBEq,bzY21,hc,qq] <;> with_reducible rfl) | (with_reducible first | apply qzT | apply qzF | apply qzG | apply qzH) | ((with_reducible first | apply qzB | apply qzC | apply qzD); simp (disch:=omega) only [coreA,Int.reduceBEq,bzY21,hc,qq] <;> with_reducible rfl))
   simp only [G19_4]
   repeat (first | (with_reducible apply qzV; simp (disch:=omega) only [coreA,Int.reduceBEq,bzY21,hv,hv2] <;> with_reducible rfl) | (with_reducible first | apply qzT | apply qzF | apply qzG | apply qzH) | ((with_reducible first | apply qzB | apply qzC | apply qzD); simp (disch:=omega) only [coreA,Int.reduceBEq,bzY21,hv,hv2] <;> with_reducible rfl))
   exact ⟨_,rfl,rfl,Grow.refl _⟩
 ·have qq : (colsE cols != 0) = true:=bne_t q
  rw [if_neg q]
  repeat (first | (with_reducible apply qzV; simp (disch:=omega) only [coreA,Int.reduceBEq,bzY21,hc,qq] <;> with_reducible rfl) | (with_reducible first | apply qzT | apply qzF | apply qzG | apply qzH) | ((with_reducible first | apply qzB | apply qzC | apply qzD); simp (disch:=omega) only [coreA,Int.reduceBEq,bzY21,hc,qq] <;> with_reducible rfl))
  exact ⟨_,rfl,rfl,Grow.refl _⟩
end Go.Proofs.Ytgklcfnjahomjaa.Sh
