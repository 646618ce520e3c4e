/- Aggregates of rows, as the document tells them ('ref20.Of'), and as the code does. -/
import Derived.Test.YtgklcfnjahomjaaSzY25
set_option linter.unusedVariables false
set_option linter.unusedSimpArgs false
set_option maxRecDepth 100000
namespace Go.Proofs.Ytgklcfnjahomjaa.Sh
open Go Go.RowKit Go.Proofs.Ev
theorem bzY26 : type_of% (And.intro @ld3 (And.intro @ld2 (And.intro @ld9 (And.intro @ld37 (And.intro @ld28 (And.intro @ld42 (And.intro @ld34 (And.intro @ld22 (And.intro @ld24 (And.intro @ld23 (And.intro @ld29 (And.intro @fa37_0 (And.intro @fa37_1 (And.intro @fa37_2 (And.intro @fa28_0 (And.intro @fa28_1 (And.intro @fa42_0 (And.intro @fa42_1 (And.intro @fa42_2 (And.intro @nilC (And.intro @ex2_0 (And.intro @ex2_1 (@Nat.add_zero))))))))))))))))))))))):=And.intro @ld3 (And.intro @ld2 (And.intro @ld9 (And.intro @ld37 (And.intro @ld28 (And.intro @ld42 (And.intro @ld34 (And.intro @ld22 (And.intro @ld24 (And.intro @ld23 (And.intro @ld29 (And.intro @fa37_0 (And.intro @fa37_1 (And.intro @fa37_2 (And.intro @fa28_0 (And.intro @fa28_1 (And.intro @fa42_0 (And.intro @fa42_1 (And.intro @fa42_2 (And.intro @nilC (And.intro @ex2_0 (And.intro @ex2_1 (@Nat.add_zero))))))))))))))))))))))
section
variable {β : Type} {Q : β→Prop} {h0 : AH}
theorem f17_dead {inv : Inv} {k : Nat} {h : AH} {cv rv bv av : Value} {rows : List (List CellD)} (R : Rows h0 rv rows) (hl : rows.length ≤ 800) {e : Int} (he : e ≠ 0) {i j : Nat}
  {ke0 : Value→Value→Value→Value→Value→Value→Value→AH→Option β} (hk : ∀ y1 y2,Tl (ke0 cv rv bv av (.int .i64 e) y1 y2 h) Q) :
  Tl (F17_lrlrr inv k (j + 1) cv rv bv av (.int .i64 e) (.int .i64 i) h ke0) Q:=by
 have hv : ∀ h',pLen Try.prog #[23] rv h' = some (.int .i64 rows.length):=fun h'=>R.len
 have q : (e == 0) = false:=beq_f he
 simp only [F17_lrlrr,G17_3]
 by_cases qi : i < rows.length
 ·repeat (first | (with_reducible apply qzV; simp (disch:=omega) only [coreA,Int.reduceBEq,bzY26,hv,q] <;> with_reducible rfl) | (with_reducible first | apply qzT | apply qzF | apply qzG | apply qzH) | ((with_reducible first | apply qzB | apply qzC | apply qzD); simp (disch:=omega) only [coreA,Int.reduceBEq,bzY26,hv,q] <;> with_reducible rfl))
  exact hk _ _
 ·repeat (first | (with_reducible apply qzV; simp (disch:=omega) only [coreA,Int.reduceBEq,bzY26,hv] <;> with_reducible rfl) | (with_reducible first | apply qzT | apply qzF | apply qzG | apply qzH) | ((with_reducible first | apply qzB | apply qzC | apply qzD); simp (disch:=omega) only [coreA,Int.reduceBEq,bzY26,hv] <;> with_reducible rfl))
  exact hk _ _
theorem f17_loop {k : Nat} {cv rv bv av : Value} {cols : List ColD} {rows : List (List CellD)} (C : Cols h0 cv cols) (R : Rows h0 rv rows) (hcl : cols.length ≤ 9223372036854775807) (hl : rows.length ≤ 800) (hls : ∀ r ∈ rows,r.length ≤ 1000)
  {ke0 : Value→Value→Value→Value→Value→Value→Value→AH→Option β} (n : Nat) :
  ∀ {i j : Nat} {h : AH},i + n = rows.length→n < j→Grow h0 h→(∀ h' y1 y2,Grow h0 h'→Tl (ke0 cv rv bv av (.int .i64 (rowsE cols (rows.drop i))) y1 y2 h') Q) →
   Tl (F17_lrlrr (eInv env (k + 300)) (k + 300) j cv rv bv av (.int .i64 0) (.int .i64 i) h ke0) Q:=by
 have hv : ∀ h',pLen Try.prog #[23] rv h' = some (.int .i64 rows.length):=fun h'=>R.len
 induction n with
 | zero =>
  intro i j h hi hj g hk
  obtain ⟨j,rfl⟩ : ∃ q,j = q + 1:=⟨j - 1,by omega⟩
  simp only [F17_lrlrr,G17_3]
  repeat (first | (with_reducible apply qzV; simp (disch:=omega) only [coreA,Int.reduceBEq,bzY26,hv] <;> with_reducible rfl) | (with_reducible first | apply qzT | apply qzF | apply qzG | apply qzH) | ((with_reducible first | apply qzB | apply qzC | apply qzD); simp (disch:=omega) only [coreA,Int.reduceBEq,bzY26,hv] <;> with_reducible rfl))
  rw [List.drop_eq_nil_of_le (by omega)] at hk
  exact hk _ _ _ g
 | succ n ih =>
  intro i j h hi hj g hk
  obtain ⟨j,rfl⟩ : ∃ q,j = q + 1:=⟨j - 1,by omega⟩
  have e : (i : Int) + 1 = ((i + 1 : Nat) : Int):=by omega
  obtain ⟨x,ex⟩ : ∃ x,rows[i]? = some x:=⟨_,List.getElem?_eq_getElem (by omega)⟩
  obtain ⟨b,o,w,hp,hc0,C0⟩:=R.at_ ex
  have hc:=g.cell hc0
  have hx:=hls x (List.mem_of_getElem? ex)
  rw [drop_at ex,rowsE] at hk
  simp only [F17_lrlrr,G17_3]
  repeat (first | (with_reducible apply qzV; simp (disch:=omega) only [coreA,Int.reduceBEq,bzY26,hv,hp,hc] <;> with_reducible rfl) | (with_reducible first | apply qzT | apply qzF | apply qzG | apply qzH) | ((with_reducible first | apply qzB | apply qzC | apply qzD); simp (disch:=omega) only [coreA,Int.reduceBEq,bzY26,hv,hp,hc] <;> with_reducible rfl))
  refine Tl.bind (f22x (k:=k) (C.grow g) (C0.grow g) hcl (by omega)) ?_
  rintro ⟨r,h1⟩ ⟨er,g1⟩
  simp only at er g1
  subst er
  by_cases q : rowE cols x = 0
  ·rw [if_pos q] at hk
   rw [q]
   repeat (first | (with_reducible apply qzV; simp (disch:=omega) only [coreA,Int.reduceBEq,bzY26] <;> with_reducible rfl) | (with_reducible first | apply qzT | apply qzF | apply qzG | apply qzH) | ((with_reducible first | apply qzB | apply qzC | apply qzD); simp (disch:=omega) only [coreA,Int.reduceBEq,bzY26] <;> with_reducible rfl))
   rw [e]
   exact ih (by omega) (by omega) (g.trans g1) hk
  ·rw [if_neg q] at hk
   repeat (first | (with_reducible apply qzV; simp (disch:=omega) only [coreA,Int.reduceBEq,bzY26] <;> with_reducible rfl) | (with_reducible first | apply qzT | apply qzF | apply qzG | apply qzH) | ((with_reducible first | apply qzB | apply qzC | apply qzD); simp (disch:=omega) only [coreA,Int.reduceBEq,bzY26] <;> with_reducible rfl))
   rw [e]
   obtain ⟨j,rfl⟩ : ∃ q,j = q + 1:=⟨j - 1,by omega⟩
   exact f17_dead R hl q fun y1 y2=>hk _ _ _ (g.trans g1)
end
/-- What both tell of rows. -/
def resL (cols : List ColD) (by_ : List Int) (aggs : List AggD) (rows : List (List CellD)) : List (List CellD):=if ofOk cols by_ aggs rows = true then toldL by_ aggs rows else []
theorem rows_nil (h : AH) : Rows h (.slice none 0 0) []:=⟨[],.inl (.inl ⟨rfl,rfl⟩),trivial⟩
theorem aggs_in {cols : List ColD} {by_ : List Int} {aggs : List AggD} (ok : aggsOk cols by_ aggs = true) {rows : List (List CellD)} (hr : ∀ r ∈ rows,rowOk cols r = true) : ∀ a ∈ aggs,a.k = 1 ∨ ∀ r ∈ rows,0 ≤ a.c ∧ a.c < r.length:=by
 obtain ⟨_,_,_,hmay⟩:=aggsOk_may ok
 intro a ha
 have hm:=hmay a ha
 by_cases k1 : a.k = 1
 ·exact .inl k1
 ·refine .inr fun r h=>?_
  have hl:=rowOk_len (hr r h)
  have ht:=may_tel hm
  have hc:=(may_c hm).resolve_left k1
  unfold telNew at ht
  rw [if_neg k1] at ht
  split at ht
  ·have ht : a.c.toNat < cols.length:=ht
   omega
  ·split at ht
   ·have ht : a.c.toNat < cols.length:=ht.1
    omega
   ·have ht : a.c.toNat < cols.length:=ht.1
    omega
theorem f17r {k : Nat} {h : AH} {cv rv bv av : Value} {cols : List ColD} {rows : List (List CellD)} {by_ : List Int} {aggs : List AggD} (C : Cols h cv cols) (R : Rows h rv rows) (B : IntsZ h bv by_) (G : Aggs h av aggs)
  (hcl : cols.length ≤ 2 ^ 40) (hbl : by_.length ≤ 20) (hal : aggs.length ≤ 20) (hl : rows.length ≤ 100) (hls : ∀ r ∈ rows,r.length ≤ 1000) :
  Tl (eInv env (k + 1012) (.func 17) #[] #[cv,rv,bv,av] h) fun r=>∃ v,r.1 = .tuple #[v,.int .i64 (ofE cols by_ aggs rows)] ∧ Rows r.2 v (resL cols by_ aggs rows) ∧ Grow h r.2:=by
 rw [F17_call]
 unfold F17 ofE resL
 have oz:=ofE_zero cols by_ aggs rows
 have oz':=oz
 unfold ofE at oz
 refine Tl.bind (f19x (k:=k + 711) C B G hcl (by omega) (by omega)) ?_
 rintro ⟨r,h1⟩ ⟨er,g1⟩
 simp only at er g1
 subst er
 by_cases q : aggsE cols by_ aggs = 0
 ·rw [q]
  rw [if_pos q] at oz
  rw [if_pos rfl]
  refine f17_loop (k:=k + 711) (C.grow g1) (R.grow g1) (by omega) (by omega) hls rows.length (i:=0) (by omega) (by omega) (Grow.refl _) fun h2 y1 y2 g2=>?_
  rw [List.drop_zero]
  have g12:=g1.trans g2
  by_cases q2 : rowsE cols rows = 0
  ·have okr:=(rowsE_zero cols rows).1 q2
   rw [List.all_eq_true] at okr
   rw [q2]
   rw [if_pos (oz.1 q2)]
   repeat (first | (with_reducible apply qzV; simp (disch:=omega) only [coreA,Int.reduceBEq,bzY26] <;> with_reducible rfl) | (with_reducible first | apply qzT | apply qzF | apply qzG | apply qzH) | ((with_reducible first | apply qzB | apply qzC | apply qzD); simp (disch:=omega) only [coreA,Int.reduceBEq,bzY26] <;> with_reducible rfl))
   refine Tl.bind (f25c (k:=k) (R.grow g12) (B.grow g12) (G.grow g12) hbl hl (by omega) (aggs_in ((aggsE_zero _ _ _).1 q) okr)) ?_
   rintro ⟨v,h3⟩ ⟨os,hos,S3⟩
   simp only at S3
   repeat (first | (with_reducible apply qzV; simp (disch:=omega) only [coreA,Int.reduceBEq,bzY26] <;> with_reducible rfl) | (with_reducible first | apply qzT | apply qzF | apply qzG | apply qzH) | ((with_reducible first | apply qzB | apply qzC | apply qzD); simp (disch:=omega) only [coreA,Int.reduceBEq,bzY26] <;> with_reducible rfl))
   refine ⟨_,rfl,v,rfl,?_,g12.trans S3.grow⟩
   rw [← hos]
   exact rowsOut (O:=[]) (by rw [List.append_nil]; exact S3)
  ·have qq : (rowsE cols rows != 0) = true:=bne_t q2
   rw [if_neg (fun h=>q2 (oz.2 h))]
   repeat (first | (with_reducible apply qzV; simp (disch:=omega) only [coreA,Int.reduceBEq,bzY26,qq] <;> with_reducible rfl) | (with_reducible first | apply qzT | apply qzF | apply qzG | apply qzH) | ((with_reducible first | apply qzB | apply qzC | apply qzD); simp (disch:=omega) only [coreA,Int.reduceBEq,bzY26,qq] <;> with_reducible rfl))
   exact ⟨_,rfl,_,rfl,rows_nil _,g12⟩
 ·rw [if_neg q] at oz
  rw [if_neg q]
  have qq : (aggsE cols by_ aggs != 0) = true:=bne_t q
  rw [if_neg (fun h=>q (oz.2 h))]
  refine f17_dead (j:=k + 1010) (i:=0) (R.grow g1) (by omega) q fun y1 y2=>?_
  repeat (first | (with_reducible apply qzV; simp (disch:=omega) only [coreA,Int.reduceBEq,bzY26,qq] <;> with_reducible rfl) | (with_reducible first | apply qzT | apply qzF | apply qzG | apply qzH) | ((with_reducible first | apply qzB | apply qzC | apply qzD); simp (disch:=omega) only [coreA,Int.reduceBEq,bzY26,qq] <;> with_reducible rfl))
  exact ⟨_,rfl,_,rfl,rows_nil _,g1⟩
theorem f12r {k : Nat} {h : AH} {cv rv bv av : Value} {cols : List ColD} {rows : List (List CellD)} {by_ : List Int} {aggs : List AggD} (C : Cols h cv cols) (R : Rows h rv rows) (B : IntsZ h bv by_) (G : Aggs h av aggs)
  (hcl : cols.length ≤ 2 ^ 30) (hbl : by_.length ≤ 20) (hal : aggs.length ≤ 20) (hl : rows.length ≤ 100) (hls : ∀ r ∈ rows,r.length ≤ 1000 ∧ ∀ x ∈ r,cellR x) :
  Tl (eInv env (k + 1606) (.func 12) #[] #[cv,rv,bv,av] h) fun r=>∃ v,r.1 = .tuple #[v,.int .i64 (ofE cols by_ aggs rows)] ∧ Rows r.2 v (resL cols by_ aggs rows) ∧ Grow h r.2:=by
 refine (f12x C R B G hcl (by omega) (by omega) (by omega) hls).mono fun r hres=>?_
 unfold resL
 rcases hres with ⟨ok,er,g⟩ | ⟨ok,v,rs,qs,er,q1,q2,q3,S⟩
 ·rw [ok,if_neg (by simp)]
  exact ⟨_,er,rows_nil _,g⟩
 ·rw [if_pos ok]
  refine ⟨v,by rw [er,(ofE_zero cols by_ aggs rows).2 ok],?_,S.grow⟩
  have okk:=ok
  unfold ofOk at okk
  simp only [Bool.and_eq_true,List.all_eq_true] at okk
  have RO : Rows r.2 v (rowsOf rs):=rowsOut (O:=[]) (by rw [List.append_nil]; exact S)
  rw [q3,told_eq okk.1 (fun x hx=>⟨okk.2 x hx,(hls x hx).2⟩) (by omega) q1 q2] at RO
  exact RO
theorem keysL_fit (by_ : List Int) (hb : by_.length ≤ 20) : ∀ (rows : List (List CellD)) (n : Nat) {ks : List (List CellD)},KFit 20 n ks→KFit 20 (n + rows.length) (rows.foldl (fun ks r=>insAt ks (pickL r by_)) ks)
 | [],n,ks,h=>h
 | r :: rows,n,ks,h=>by
  have:=keysL_fit by_ hb rows (n + 1) (h.add (key:=pickL r by_) (by unfold pickL; simpa using hb))
  rw [List.length_cons,show n + (rows.length + 1) = n + 1 + rows.length by omega]
  exact this
theorem toldL_fit {by_ : List Int} {aggs : List AggD} (hb : by_.length ≤ 20) (ha : aggs.length ≤ 20) (rows : List (List CellD)) : (toldL by_ aggs rows).length ≤ rows.length + 1 ∧ ∀ r ∈ toldL by_ aggs rows,r.length ≤ 40:=by
 have hf:=keysL_fit by_ hb rows 0 (ks:=if by_ = [] then [[]] else []) (by split <;> exact ⟨by simp,by simp⟩)
 refine ⟨?_,fun r hr=>?_⟩
 ·unfold toldL
  rw [List.length_map]
  have:=hf.len
  unfold keysL
  omega
 ·unfold toldL at hr
  obtain ⟨key,hk,rfl⟩:=List.mem_map.1 hr
  have:=hf.row key hk
  unfold rowK
  rw [List.length_append,List.length_map]
  omega
theorem resL_fit {cols : List ColD} {by_ : List Int} {aggs : List AggD} (hb : by_.length ≤ 20) (ha : aggs.length ≤ 20) (rows : List (List CellD)) : (resL cols by_ aggs rows).length ≤ rows.length + 1 ∧ ∀ r ∈ resL cols by_ aggs rows,r.length ≤ 40:=by
 unfold resL
 split
 ·exact toldL_fit hb ha rows
 ·exact ⟨Nat.zero_le _,fun r hr=>by cases hr⟩
end Go.Proofs.Ytgklcfnjahomjaa.Sh
