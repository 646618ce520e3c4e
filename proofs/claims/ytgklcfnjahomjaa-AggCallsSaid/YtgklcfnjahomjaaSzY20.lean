/- An aggregate of rows, as the document tells it ('ref20.one'). -/
import Derived.Test.YtgklcfnjahomjaaSzY10
set_option linter.unusedVariables false
set_option linter.unusedSimpArgs false
set_option maxRecDepth 100000
namespace Go.Proofs.Ytgklcfnjahomjaa.Sh
open Go Go.RowKit Go.Proofs.Ev
theorem bzY20 : type_of% (And.intro @ld3 (And.intro @ld2 (And.intro @ld9 (And.intro @ld37 (And.intro @ld28 (And.intro @ld42 (And.intro @ld34 (And.intro @ld22 (And.intro @ld24 (And.intro @ld23 (And.intro @ld29 (And.intro @fa37_0 (And.intro @fa37_1 (And.intro @fa37_2 (And.intro @fa28_0 (And.intro @fa28_1 (And.intro @fa42_0 (And.intro @fa42_1 (And.intro @fa42_2 (And.intro @nilC (And.intro @ex2_0 (And.intro @ex2_1 (@Nat.add_zero))))))))))))))))))))))):=And.intro @ld3 (And.intro @ld2 (And.intro @ld9 (And.intro @ld37 (And.intro @ld28 (And.intro @ld42 (And.intro @ld34 (And.intro @ld22 (And.intro @ld24 (And.intro @ld23 (And.intro @ld29 (And.intro @fa37_0 (And.intro @fa37_1 (And.intro @fa37_2 (And.intro @fa28_0 (And.intro @fa28_1 (And.intro @fa42_0 (And.intro @fa42_1 (And.intro @fa42_2 (And.intro @nilC (And.intro @ex2_0 (And.intro @ex2_1 (@Nat.add_zero))))))))))))))))))))))
def oneS (a : AggD) (o v : CellD) : CellD :=
 if v.k = 0 then o else if o.k = 0 then v else if a.k = 2 then ⟨o.k,IntKind.i64.wrap (o.i + v.i),o.s⟩ else if (a.k = 3 ∧ v.cmp o < 0) ∨ (a.k = 4 ∧ v.cmp o > 0) then v else o
def oneF (a : AggD) (rows : List (List CellD)) : CellD:=rows.foldl (fun o r=>oneS a o (atC r a.c)) cellZ
def oneC (rows : List (List CellD)) (a : AggD) : CellD:=if a.k = 1 then ⟨1,(rows.length : Nat),.empty⟩ else oneF a rows
theorem sameCellW (c : CellD) : sameV (.agg (crow c).toArray) (.agg (crow c).toArray) = true:=by
 have : (c.s == c.s) = true:=sameV_string (s:=c.s)
 simp [sameV,sameList,same0,crow,this]
section
variable {h0 : AH} {β : Type} {Q : β→Prop}
theorem f52_body {k : Nat} {h : AH} {L : List (Nat × AO)} {b3 b4 b5 : Nat} {rv x18 : Value} {rows : List (List CellD)} {row : List CellD} {a : AggD} {i : Nat} {o : CellD} (S : Stt Try.prog h0.n h0 h ((b5,.cells (crow o) 37 true) :: (b3,.cells (arow a) 28 true) :: L) []) (R : Rows h0 rv rows)
  (hrow : rows[i]? = some row) (hc : 0 ≤ a.c ∧ a.c < row.length) (hi : i ≤ 1000) {kn : Value→Value→Value→Value→Value→Value→Value→Value→AH→Option β}
  (hk : ∀ h' y1 y2 y3,Stt Try.prog h0.n h0 h' ((b5,.cells (crow (oneS a o (atC row a.c))) 37 true) :: (b3,.cells (arow a) 28 true) :: L) []→Tl (kn rv (.pointer (some ⟨b3,0,none⟩)) (.pointer (some ⟨b4,0,none⟩)) (.pointer (some ⟨b5,0,none⟩)) (.int .i64 i) y1 y2 y3 h') Q) :
  Tl (F52_lrllrlrrr (eInv env (k + 2)) (k + 2) rv (.pointer (some ⟨b3,0,none⟩)) (.pointer (some ⟨b4,0,none⟩)) (.pointer (some ⟨b5,0,none⟩)) (.int .i64 i) x18 h kn) Q:=by
 obtain ⟨ak,ac⟩:=a
 obtain ⟨m,rfl⟩ : ∃ m : Nat,ac = m:=⟨ac.toNat,by simp only at hc; omega⟩
 simp only at hc
 obtain ⟨b,ob,w,hp,hc0,Cw0⟩:=R.at_ hrow
 have hca:=S.grow.cell hc0
 have hsw:=SlZ.same Cw0
 obtain ⟨v,ev⟩ : ∃ x,row[m]? = some x:=⟨_,List.getElem?_eq_getElem (by omega)⟩
 have av : atC row (m : Int) = v:=atC_in (by omega) (by rw [Int.toNat_natCast]; exact ev)
 simp only [av] at hk
 obtain ⟨b1,o1,hp1,hr10⟩:=Cw0.at_ ev
 have hra:=S.grow.row hr10
 have cc : h.cell b3 1 = some (.int .i64 (m : Int)):=S.cell 1 rfl rfl
 have sv:=sameCellW v
 simp only [F52_lrllrlrrr,G52_7]
 repeat (first | (with_reducible apply qzV; simp (disch:=omega) only [coreA,Int.reduceBEq,bzY20,hp,hca,cc,hp1,hra] <;> with_reducible rfl) | (with_reducible first | apply qzT | apply qzF | apply qzG | apply qzH) | ((with_reducible first | apply qzB | apply qzC | apply qzD); simp (disch:=omega) only [coreA,Int.reduceBEq,bzY20,hp,hca,cc,hp1,hra] <;> with_reducible rfl))
 refine Tl.alloc' S ze37 (by rfl) fun b7 h1 S1 g1=>?_
 have hcb:=S1.grow.cell hc0
 have hrb:=S1.grow.row hr10
 have cd : h1.cell b3 1 = some (.int .i64 (m : Int)):=S1.cell 2 rfl rfl
 refine Tl.store' S1 0 rfl sz37 rfl rfl (by decide) fun h2 S2 _=>?_
 have S2 : Stt Try.prog h0.n h0 h2 ((b7,.cells (crow v) 37 true) :: (b5,.cells (crow o) 37 true) :: (b3,.cells (arow ⟨ak,m⟩) 28 true) :: L) []:=S2
 simp only [ld34,ld37,ld3,Option.map_some,hca,hcb,hra,hrb,cc,cd,sameO_some,sameV_int,hsw,sv,Bool.and_self,Bool.not_true,Bool.false_or,chkK_t]
 have v0 : h2.cell b7 0 = some (.int .i64 v.k):=S2.cell 0 rfl rfl
 have v1 : h2.cell b7 1 = some (.int .i64 v.i):=S2.cell 0 rfl rfl
 have o0 : h2.cell b5 0 = some (.int .i64 o.k):=S2.cell 1 rfl rfl
 have o1' : h2.cell b5 1 = some (.int .i64 o.i):=S2.cell 1 rfl rfl
 have a0 : h2.cell b3 0 = some (.int .i64 ak):=S2.cell 2 rfl rfl
 have rv7 : h2.row b7 0 3 = some (crow v):=S2.row 0 rfl rfl
 have ro5 : h2.row b5 0 3 = some (crow o):=S2.row 1 rfl rfl
 by_cases e0 : v.k = 0
 ·have ec : oneS ⟨ak,m⟩ o v = o:=by unfold oneS; rw [if_pos e0]
  rw [ec] at hk
  repeat (first | (with_reducible apply qzV; simp (disch:=omega) only [coreA,Int.reduceBEq,bzY20,v0] <;> with_reducible rfl) | (with_reducible first | apply qzT | apply qzF | apply qzG | apply qzH) | ((with_reducible first | apply qzB | apply qzC | apply qzD); simp (disch:=omega) only [coreA,Int.reduceBEq,bzY20,v0] <;> with_reducible rfl))
  exact hk _ _ _ _ S2.drop
 by_cases e1 : o.k = 0
 ·have ec : oneS ⟨ak,m⟩ o v = v:=by unfold oneS; rw [if_neg e0,if_pos e1]
  rw [ec] at hk
  repeat (first | (with_reducible apply qzV; simp (disch:=omega) only [coreA,Int.reduceBEq,bzY20,v0,o0,rv7] <;> with_reducible rfl) | (with_reducible first | apply qzT | apply qzF | apply qzG | apply qzH) | ((with_reducible first | apply qzB | apply qzC | apply qzD); simp (disch:=omega) only [coreA,Int.reduceBEq,bzY20,v0,o0,rv7] <;> with_reducible rfl))
  refine Tl.store' S2 1 rfl sz37 rfl rfl (by simp [crow]) fun h3 S3 _=>?_
  repeat (first | (with_reducible apply qzV; simp (disch:=omega) only [coreA,Int.reduceBEq,bzY20] <;> with_reducible rfl) | (with_reducible first | apply qzT | apply qzF | apply qzG | apply qzH) | ((with_reducible first | apply qzB | apply qzC | apply qzD); simp (disch:=omega) only [coreA,Int.reduceBEq,bzY20] <;> with_reducible rfl))
  exact hk _ _ _ _ S3.drop
 by_cases e2 : ak = 2
 ·have ec : oneS ⟨ak,m⟩ o v = ⟨o.k,IntKind.i64.wrap (o.i + v.i),o.s⟩:=by unfold oneS; rw [if_neg e0,if_neg e1,if_pos e2]
  rw [ec] at hk
  repeat (first | (with_reducible apply qzV; simp (disch:=omega) only [coreA,Int.reduceBEq,bzY20,v0,o0,a0,o1',v1] <;> with_reducible rfl) | (with_reducible first | apply qzT | apply qzF | apply qzG | apply qzH) | ((with_reducible first | apply qzB | apply qzC | apply qzD); simp (disch:=omega) only [coreA,Int.reduceBEq,bzY20,v0,o0,a0,o1',v1] <;> with_reducible rfl))
  refine Tl.store' S2 1 rfl sz2 rfl rfl (by simp [crow]) fun h3 S3 _=>?_
  repeat (first | (with_reducible apply qzV; simp (disch:=omega) only [coreA,Int.reduceBEq,bzY20] <;> with_reducible rfl) | (with_reducible first | apply qzT | apply qzF | apply qzG | apply qzH) | ((with_reducible first | apply qzB | apply qzC | apply qzD); simp (disch:=omega) only [coreA,Int.reduceBEq,bzY20] <;> with_reducible rfl))
  exact hk _ _ _ _ S3.drop
 have fin : ∀ h',Stt Try.prog h0.n h0 h' ((b7,.cells (crow v) 37 true) :: (b5,.cells (crow o) 37 true) :: (b3,.cells (arow ⟨ak,m⟩) 28 true) :: L) []→((ak = 3 ∧ v.cmp o < 0) ∨ (ak = 4 ∧ v.cmp o > 0)) →
   Tl (bnd (pLoad Try.prog 37 (.pointer (some ⟨b7,0,none⟩)) h') fun x67=>bnd (kSt (pStore Try.prog 37 (.pointer (some ⟨b5,0,none⟩)) x67 h')) fun u=>kn rv (.pointer (some ⟨b3,0,none⟩)) (.pointer (some ⟨b4,0,none⟩)) (.pointer (some ⟨b5,0,none⟩)) (.int .i64 i) unk unk unk u.2) Q:=fun h' S' hy=>by
  have r7 : h'.row b7 0 3 = some (crow v):=S'.row 0 rfl rfl
  have ec : oneS ⟨ak,m⟩ o v = v:=by unfold oneS; rw [if_neg e0,if_neg e1,if_neg e2,if_pos hy]
  rw [ec] at hk
  repeat (first | (with_reducible apply qzV; simp (disch:=omega) only [coreA,Int.reduceBEq,bzY20,r7] <;> with_reducible rfl) | (with_reducible first | apply qzT | apply qzF | apply qzG | apply qzH) | ((with_reducible first | apply qzB | apply qzC | apply qzD); simp (disch:=omega) only [coreA,Int.reduceBEq,bzY20,r7] <;> with_reducible rfl))
  refine Tl.store' S' 1 rfl sz37 rfl rfl (by simp [crow]) fun h3 S3 _=>?_
  repeat (first | (with_reducible apply qzV; simp (disch:=omega) only [coreA,Int.reduceBEq,bzY20] <;> with_reducible rfl) | (with_reducible first | apply qzT | apply qzF | apply qzG | apply qzH) | ((with_reducible first | apply qzB | apply qzC | apply qzD); simp (disch:=omega) only [coreA,Int.reduceBEq,bzY20] <;> with_reducible rfl))
  exact hk _ _ _ _ S3.drop
 have keep : ¬ ((ak = 3 ∧ v.cmp o < 0) ∨ (ak = 4 ∧ v.cmp o > 0))→∀ h' y1 y2 y3,Stt Try.prog h0.n h0 h' ((b7,.cells (crow v) 37 true) :: (b5,.cells (crow o) 37 true) :: (b3,.cells (arow ⟨ak,m⟩) 28 true) :: L) [] →
   Tl (kn rv (.pointer (some ⟨b3,0,none⟩)) (.pointer (some ⟨b4,0,none⟩)) (.pointer (some ⟨b5,0,none⟩)) (.int .i64 i) y1 y2 y3 h') Q:=fun hn h' y1 y2 y3 S'=>by
  have ec : oneS ⟨ak,m⟩ o v = o:=by unfold oneS; rw [if_neg e0,if_neg e1,if_neg e2,if_neg hn]
  rw [ec] at hk
  exact hk _ _ _ _ S'.drop
 repeat (first | (with_reducible apply qzV; simp (disch:=omega) only [coreA,Int.reduceBEq,bzY20,v0,o0,a0] <;> with_reducible rfl) | (with_reducible first | apply qzT | apply qzF | apply qzG | apply qzH) | ((with_reducible first | apply qzB | apply qzC | apply qzD); simp (disch:=omega) only [coreA,Int.reduceBEq,bzY20,v0,o0,a0] <;> with_reducible rfl))
 simp only [G52_13]
 by_cases e3 : ak = 3
 ·repeat (first | (with_reducible apply qzV; simp (disch:=omega) only [coreA,Int.reduceBEq,bzY20,a0,rv7,ro5] <;> with_reducible rfl) | (with_reducible first | apply qzT | apply qzF | apply qzG | apply qzH) | ((with_reducible first | apply qzB | apply qzC | apply qzD); simp (disch:=omega) only [coreA,Int.reduceBEq,bzY20,a0,rv7,ro5] <;> with_reducible rfl))
  refine Tl.call' S2 (f14c (k:=k) v o h2) fun h3 S3 g3=>?_
  have a3 : h3.cell b3 0 = some (.int .i64 ak):=g3.cell a0
  by_cases q : v.cmp o < 0
  ·repeat (first | (with_reducible apply qzV; simp (disch:=omega) only [coreA,Int.reduceBEq,bzY20] <;> with_reducible rfl) | (with_reducible first | apply qzT | apply qzF | apply qzG | apply qzH) | ((with_reducible first | apply qzB | apply qzC | apply qzD); simp (disch:=omega) only [coreA,Int.reduceBEq,bzY20] <;> with_reducible rfl))
   simp only [F52_rlrrrrrrlrllrllrlrrr]
   refine Tl.brT ?_
   refine Tl.brT ?_
   exact fin _ S3 (.inl ⟨e3,q⟩)
  ·repeat (first | (with_reducible apply qzV; simp (disch:=omega) only [coreA,Int.reduceBEq,bzY20] <;> with_reducible rfl) | (with_reducible first | apply qzT | apply qzF | apply qzG | apply qzH) | ((with_reducible first | apply qzB | apply qzC | apply qzD); simp (disch:=omega) only [coreA,Int.reduceBEq,bzY20] <;> with_reducible rfl))
   simp only [F52_rlrrrrrrlrllrllrlrrr,G52_14]
   repeat (first | (with_reducible apply qzV; simp (disch:=omega) only [coreA,Int.reduceBEq,bzY20,a3] <;> with_reducible rfl) | (with_reducible first | apply qzT | apply qzF | apply qzG | apply qzH) | ((with_reducible first | apply qzB | apply qzC | apply qzD); simp (disch:=omega) only [coreA,Int.reduceBEq,bzY20,a3] <;> with_reducible rfl))
   exact keep (fun h=>h.elim (fun h=>q h.2) (fun h=>by omega)) _ _ _ _ S3
 ·repeat (first | (with_reducible apply qzV; simp (disch:=omega) only [coreA,Int.reduceBEq,bzY20,a0] <;> with_reducible rfl) | (with_reducible first | apply qzT | apply qzF | apply qzG | apply qzH) | ((with_reducible first | apply qzB | apply qzC | apply qzD); simp (disch:=omega) only [coreA,Int.reduceBEq,bzY20,a0] <;> with_reducible rfl))
  simp only [F52_rlrrrrrrlrllrllrlrrr,G52_14]
  by_cases e4 : ak = 4
  ·repeat (first | (with_reducible apply qzV; simp (disch:=omega) only [coreA,Int.reduceBEq,bzY20,a0,rv7,ro5] <;> with_reducible rfl) | (with_reducible first | apply qzT | apply qzF | apply qzG | apply qzH) | ((with_reducible first | apply qzB | apply qzC | apply qzD); simp (disch:=omega) only [coreA,Int.reduceBEq,bzY20,a0,rv7,ro5] <;> with_reducible rfl))
   refine Tl.call' S2 (f14c (k:=k) v o h2) fun h3 S3 g3=>?_
   by_cases q : v.cmp o > 0
   ·repeat (first | (with_reducible apply qzV; simp (disch:=omega) only [coreA,Int.reduceBEq,bzY20] <;> with_reducible rfl) | (with_reducible first | apply qzT | apply qzF | apply qzG | apply qzH) | ((with_reducible first | apply qzB | apply qzC | apply qzD); simp (disch:=omega) only [coreA,Int.reduceBEq,bzY20] <;> with_reducible rfl))
    exact fin _ S3 (.inr ⟨e4,q⟩)
   ·repeat (first | (with_reducible apply qzV; simp (disch:=omega) only [coreA,Int.reduceBEq,bzY20] <;> with_reducible rfl) | (with_reducible first | apply qzT | apply qzF | apply qzG | apply qzH) | ((with_reducible first | apply qzB | apply qzC | apply qzD); simp (disch:=omega) only [coreA,Int.reduceBEq,bzY20] <;> with_reducible rfl))
    exact keep (fun h=>h.elim (fun h=>by omega) (fun h=>q h.2)) _ _ _ _ S3
  ·repeat (first | (with_reducible apply qzV; simp (disch:=omega) only [coreA,Int.reduceBEq,bzY20,a0] <;> with_reducible rfl) | (with_reducible first | apply qzT | apply qzF | apply qzG | apply qzH) | ((with_reducible first | apply qzB | apply qzC | apply qzD); simp (disch:=omega) only [coreA,Int.reduceBEq,bzY20,a0] <;> with_reducible rfl))
   exact keep (fun h=>h.elim (fun h=>e3 h.1) (fun h=>e4 h.1)) _ _ _ _ S2
theorem f52_loop {k : Nat} {L : List (Nat × AO)} {b3 b4 b5 : Nat} {rv : Value} {rows : List (List CellD)} {a : AggD} (R : Rows h0 rv rows) (hc : ∀ r ∈ rows,0 ≤ a.c ∧ a.c < r.length) (hl : rows.length ≤ 1000)
  {ke0 : Value→Value→Value→Value→Value→Value→AH→Option β} (n : Nat) :
  ∀ {i j : Nat} {h : AH} {o : CellD},i + n = rows.length→n < j→o = oneF a (rows.take i)→Stt Try.prog h0.n h0 h ((b5,.cells (crow o) 37 true) :: (b3,.cells (arow a) 28 true) :: L) [] →
   (∀ h' y1 y2 y3 y4,Stt Try.prog h0.n h0 h' ((b5,.cells (crow (oneF a rows)) 37 true) :: (b3,.cells (arow a) 28 true) :: L) []→Tl (ke0 y1 y2 (.pointer (some ⟨b4,0,none⟩)) (.pointer (some ⟨b5,0,none⟩)) y3 y4 h') Q) →
   Tl (F52_lrlrrr (eInv env (k + 2)) (k + 2) j rv (.pointer (some ⟨b3,0,none⟩)) (.pointer (some ⟨b4,0,none⟩)) (.pointer (some ⟨b5,0,none⟩)) (.int .i64 i) h ke0) Q:=by
 have hv : ∀ h',pLen Try.prog #[23] rv h' = some (.int .i64 rows.length):=fun h'=>R.len
 induction n with
 | zero =>
  intro i j h o hi hj ho S hk
  obtain ⟨j,rfl⟩ : ∃ q,j = q + 1:=⟨j - 1,by omega⟩
  simp only [F52_lrlrrr]
  repeat (first | (with_reducible apply qzV; simp (disch:=omega) only [coreA,Int.reduceBEq,bzY20,hv] <;> with_reducible rfl) | (with_reducible first | apply qzT | apply qzF | apply qzG | apply qzH) | ((with_reducible first | apply qzB | apply qzC | apply qzD); simp (disch:=omega) only [coreA,Int.reduceBEq,bzY20,hv] <;> with_reducible rfl))
  rw [ho,List.take_of_length_le (by omega)] at S
  exact hk _ _ _ _ _ S
 | succ n ih =>
  intro i j h o hi hj ho S hk
  obtain ⟨j,rfl⟩ : ∃ q,j = q + 1:=⟨j - 1,by omega⟩
  have e : (i : Int) + 1 = ((i + 1 : Nat) : Int):=by omega
  obtain ⟨row,er⟩ : ∃ x,rows[i]? = some x:=⟨_,List.getElem?_eq_getElem (by omega)⟩
  simp only [F52_lrlrrr]
  repeat (first | (with_reducible apply qzV; simp (disch:=omega) only [coreA,Int.reduceBEq,bzY20,hv] <;> with_reducible rfl) | (with_reducible first | apply qzT | apply qzF | apply qzG | apply qzH) | ((with_reducible first | apply qzB | apply qzC | apply qzD); simp (disch:=omega) only [coreA,Int.reduceBEq,bzY20,hv] <;> with_reducible rfl))
  refine f52_body (k:=k) S R er (hc row (List.mem_of_getElem? er)) (by omega) fun h' y1 y2 y3 S'=>?_
  repeat (first | (with_reducible apply qzV; simp (disch:=omega) only [coreA,Int.reduceBEq,bzY20] <;> with_reducible rfl) | (with_reducible first | apply qzT | apply qzF | apply qzG | apply qzH) | ((with_reducible first | apply qzB | apply qzC | apply qzD); simp (disch:=omega) only [coreA,Int.reduceBEq,bzY20] <;> with_reducible rfl))
  rw [e]
  refine ih (by omega) (by omega) ?_ S' hk
  rw [ho,List.take_add_one,er]
  unfold oneF
  rw [List.foldl_append]
  rfl
theorem f52c {k : Nat} {h : AH} {rv : Value} {rows : List (List CellD)} {a : AggD} (R : Rows h rv rows) (hc : a.k = 1 ∨ ∀ r ∈ rows,0 ≤ a.c ∧ a.c < r.length) (hl : rows.length ≤ 1000) (hk : rows.length < k + 2) :
  Tl (eInv env (k + 3) (.func 52) #[] #[rv,a.v] h) fun r=>r.1 = (oneC rows a).v ∧ Grow h r.2:=by
 rw [F52_call]
 unfold F52 oneC
 have hv : ∀ h',pLen Try.prog #[23] rv h' = some (.int .i64 rows.length):=fun h'=>R.len
 refine Tl.box' (Stt.init h) rfl (by rw [sz28]; rfl) fun b3 h1 S1 g1=>?_
 refine Tl.alloc' S1 ze37 (by rfl) fun b4 h2 S2 g2=>?_
 have S2 : Stt Try.prog h.n h h2 [(b4,.cells (crow cellZ) 37 true),(b3,.cells (arow a) 28 true)] []:=S2
 have a0 : h2.cell b3 0 = some (.int .i64 a.k):=S2.cell 1 rfl rfl
 by_cases q : a.k = 1
 ·rw [if_pos q]
  have bd:=bdCn (rows.length : Int)
  repeat (first | (with_reducible apply qzV; simp (disch:=omega) only [coreA,Int.reduceBEq,bzY20,a0,hv,bd] <;> with_reducible rfl) | (with_reducible first | apply qzT | apply qzF | apply qzG | apply qzH) | ((with_reducible first | apply qzB | apply qzC | apply qzD); simp (disch:=omega) only [coreA,Int.reduceBEq,bzY20,a0,hv,bd] <;> with_reducible rfl))
  refine Tl.store' S2 0 rfl sz37 rfl rfl (by decide) fun h3 S3 _=>?_
  have r3 : h3.row b4 0 3 = some (crow ⟨1,(rows.length : Nat),.empty⟩):=S3.row 0 rfl rfl
  repeat (first | (with_reducible apply qzV; simp (disch:=omega) only [coreA,Int.reduceBEq,bzY20,r3] <;> with_reducible rfl) | (with_reducible first | apply qzT | apply qzF | apply qzG | apply qzH) | ((with_reducible first | apply qzB | apply qzC | apply qzD); simp (disch:=omega) only [coreA,Int.reduceBEq,bzY20,r3] <;> with_reducible rfl))
  exact ⟨_,rfl,rfl,S3.grow⟩
 ·rw [if_neg q]
  have hc:=hc.resolve_left q
  repeat (first | (with_reducible apply qzV; simp (disch:=omega) only [coreA,Int.reduceBEq,bzY20,a0,bdC0] <;> with_reducible rfl) | (with_reducible first | apply qzT | apply qzF | apply qzG | apply qzH) | ((with_reducible first | apply qzB | apply qzC | apply qzD); simp (disch:=omega) only [coreA,Int.reduceBEq,bzY20,a0,bdC0] <;> with_reducible rfl))
  refine Tl.alloc' S2 ze37 (by rfl) fun b5 h3 S3 g3=>?_
  refine Tl.store' S3 0 rfl sz37 rfl rfl (by decide) fun h4 S4 _=>?_
  have S4 : Stt Try.prog h.n h h4 ((b5,.cells (crow cellZ) 37 true) :: (b3,.cells (arow a) 28 true) :: (b4,.cells (crow cellZ) 37 true) :: []) []:=S4.perm (.cons _ (.swap _ _ _))
  refine f52_loop (k:=k) R hc hl rows.length (i:=0) (by omega) (by omega) rfl S4 fun h5 y1 y2 y3 y4 S5=>?_
  have r5 : h5.row b5 0 3 = some (crow (oneF a rows)):=S5.row 0 rfl rfl
  repeat (first | (with_reducible apply qzV; simp (disch:=omega) only [coreA,Int.reduceBEq,bzY20,r5] <;> with_reducible rfl) | (with_reducible first | apply qzT | apply qzF | apply qzG | apply qzH) | ((with_reducible first | apply qzB | apply qzC | apply qzD); simp (disch:=omega) only [coreA,Int.reduceBEq,bzY20,r5] <;> with_reducible rfl))
  refine Tl.store' S5 2 rfl sz37 rfl rfl (by simp [crow]) fun h6 S6 _=>?_
  have r6 : h6.row b4 0 3 = some (crow (oneF a rows)):=S6.row 2 rfl rfl
  repeat (first | (with_reducible apply qzV; simp (disch:=omega) only [coreA,Int.reduceBEq,bzY20,r6] <;> with_reducible rfl) | (with_reducible first | apply qzT | apply qzF | apply qzG | apply qzH) | ((with_reducible first | apply qzB | apply qzC | apply qzD); simp (disch:=omega) only [coreA,Int.reduceBEq,bzY20,r6] <;> with_reducible rfl))
  exact ⟨_,rfl,rfl,S6.grow⟩
end
end Go.Proofs.Ytgklcfnjahomjaa.Sh
