/- Aggregates that are told rows: 'count', 'sum', 'most'. -/
import Derived.Test.YtgklcfnjahomjaaSzY1
import Derived.Test.YtgklcfnjahomjaaSzY2
set_option linter.unusedVariables false
set_option linter.unusedSimpArgs false
set_option maxRecDepth 100000
namespace Go.Proofs.Ytgklcfnjahomjaa.Sh
open Go Go.RowKit Go.Proofs.Ev
theorem bzY3 : type_of% (And.intro @ld3 (And.intro @ld2 (And.intro @ld9 (And.intro @ld37 (And.intro @ld28 (And.intro @fa37_0 (And.intro @fa37_1 (And.intro @fa37_2 (And.intro @fa28_0 (And.intro @fa28_1 (And.intro @fa111_0 (And.intro @fa114_0 (And.intro @fa114_1 (And.intro @fa117_0 (And.intro @fa117_1 (And.intro @fa117_2 (And.intro @nilC (@Nat.add_zero)))))))))))))))))):=And.intro @ld3 (And.intro @ld2 (And.intro @ld9 (And.intro @ld37 (And.intro @ld28 (And.intro @fa37_0 (And.intro @fa37_1 (And.intro @fa37_2 (And.intro @fa28_0 (And.intro @fa28_1 (And.intro @fa111_0 (And.intro @fa114_0 (And.intro @fa114_1 (And.intro @fa117_0 (And.intro @fa117_1 (And.intro @fa117_2 (And.intro @nilC (@Nat.add_zero)))))))))))))))))
inductive Tel where
 | cnt (n : Int)
 | sum (c : Nat) (v : CellD)
 | most (c : Nat) (s : Int) (v : CellD)
def telRow : Tel→List Value
 | .cnt n=>[.int .i64 n]
 | .sum c v=>.int .i64 c :: crow v
 | .most c s v=>.int .i64 c :: .int .i64 s :: crow v
def telT : Tel→TypeId
 | .cnt _=>111
 | .sum ..=>114
 | .most ..=>117
def telP : Tel→TypeId
 | .cnt _=>109
 | .sum ..=>112
 | .most ..=>115
def telV (t : Tel) (b : Nat) : Value:=.iface (telP t) (.pointer (some ⟨b,0,none⟩))
def telO (t : Tel) : AO:=.cells (telRow t) (telT t) true
def sumPut (v x : CellD) : CellD:=if x.k = 0 then v else ⟨x.k,IntKind.i64.wrap (v.i + x.i),v.s⟩
def mostPut (s : Int) (v x : CellD) : CellD:=if x.k ≠ 0 ∧ (v.k = 0 ∨ s * x.cmp v > 0) then x else v
def telAdd (row : List CellD) : Tel→Tel
 | .cnt n=>.cnt (IntKind.i64.wrap (n + 1))
 | .sum c v=>.sum c (sumPut v (atC row c))
 | .most c s v=>.most c s (mostPut s v (atC row c))
def telTold : Tel→CellD
 | .cnt n=>⟨1,n,.empty⟩
 | .sum _ v=>v
 | .most _ _ v=>v
def telIn (n : Nat) : Tel→Prop
 | .cnt _=>True
 | .sum c _=>c < n
 | .most c s _=>c < n ∧ (s = 1 ∨ s = -1)
def telNew (a : AggD) : Tel:=if a.k = 1 then .cnt 0 else if a.k = 2 then .sum a.c.toNat cellZ else if a.k = 3 then .most a.c.toNat (-1) cellZ else .most a.c.toNat 1 cellZ
theorem meth_addC {k : Nat} {b : Nat} {rv : Value} {h : AH} : eInv env (k + 1) (.method "shadowbook/agg.add") #[] #[.iface 109 (.pointer (some ⟨b, 0, none⟩)), rv] h = F109 (eInv env k) k (.pointer (some ⟨b, 0, none⟩)) rv h :=
 (by kernel_rfl : _ = eFun env k (eInv env k) 109 #[.pointer (some ⟨b,0,none⟩),rv] h).trans F109_eq
theorem meth_addS {k : Nat} {b : Nat} {rv : Value} {h : AH} : eInv env (k + 1) (.method "shadowbook/agg.add") #[] #[.iface 112 (.pointer (some ⟨b, 0, none⟩)), rv] h = F112 (eInv env k) k (.pointer (some ⟨b, 0, none⟩)) rv h :=
 (by kernel_rfl : _ = eFun env k (eInv env k) 112 #[.pointer (some ⟨b,0,none⟩),rv] h).trans F112_eq
theorem meth_addM {k : Nat} {b : Nat} {rv : Value} {h : AH} : eInv env (k + 1) (.method "shadowbook/agg.add") #[] #[.iface 115 (.pointer (some ⟨b, 0, none⟩)), rv] h = F116 (eInv env k) k (.pointer (some ⟨b, 0, none⟩)) rv h :=
 (by kernel_rfl : _ = eFun env k (eInv env k) 116 #[.pointer (some ⟨b,0,none⟩),rv] h).trans F116_eq
theorem meth_toldC {k : Nat} {b : Nat} {h : AH} : eInv env (k + 1) (.method "shadowbook/agg.told") #[] #[.iface 109 (.pointer (some ⟨b, 0, none⟩))] h = F111 (eInv env k) k (.pointer (some ⟨b, 0, none⟩)) h :=
 (by kernel_rfl : _ = eFun env k (eInv env k) 111 #[.pointer (some ⟨b,0,none⟩)] h).trans F111_eq
theorem meth_toldS {k : Nat} {b : Nat} {h : AH} : eInv env (k + 1) (.method "shadowbook/agg.told") #[] #[.iface 112 (.pointer (some ⟨b, 0, none⟩))] h = F114 (eInv env k) k (.pointer (some ⟨b, 0, none⟩)) h :=
 (by kernel_rfl : _ = eFun env k (eInv env k) 114 #[.pointer (some ⟨b,0,none⟩)] h).trans F114_eq
theorem meth_toldM {k : Nat} {b : Nat} {h : AH} : eInv env (k + 1) (.method "shadowbook/agg.told") #[] #[.iface 115 (.pointer (some ⟨b, 0, none⟩))] h = F118 (eInv env k) k (.pointer (some ⟨b, 0, none⟩)) h :=
 (by kernel_rfl : _ = eFun env k (eInv env k) 118 #[.pointer (some ⟨b,0,none⟩)] h).trans F118_eq
section
variable {n0 : Nat} {h0 h : AH} {L : List (Nat × AO)} {O : List OS}
theorem bdCn (n : Int) : pBuild Try.prog 37 #[(0,.int .i64 1),(1,.int .i64 n)] = some (CellD.v ⟨1,n,.empty⟩):=by kernel_rfl
theorem f115c {k : Nat} {b c : Nat} {v x : CellD} (S : Stt Try.prog n0 h0 h ((b,telO (.sum c v)) :: L) O) :
  Tl (eInv env (k + 1) (.func 115) #[] #[.pointer (some ⟨b,0,none⟩),x.v] h) fun r=>Stt Try.prog n0 h0 r.2 ((b,telO (.sum c (sumPut v x))) :: L) O:=by
 rw [F115_call]
 unfold F115
 refine Tl.box' S rfl (by rw [sz37]; rfl) fun b1 h1 S1 _=>?_
 have c0 : h1.cell b1 0 = some (.int .i64 x.k):=S1.cell 0 rfl rfl
 have c1 : h1.cell b1 1 = some (.int .i64 x.i):=S1.cell 0 rfl rfl
 have d1 : h1.cell b (1 + 1) = some (.int .i64 v.i):=S1.cell 1 rfl rfl
 by_cases q : x.k = 0
 ·repeat (first | (with_reducible apply qzV; simp (disch:=omega) only [coreA,Int.reduceBEq,bzY3,c0] <;> with_reducible rfl) | (with_reducible first | apply qzT | apply qzF | apply qzG | apply qzH) | ((with_reducible first | apply qzB | apply qzC | apply qzD); simp (disch:=omega) only [coreA,Int.reduceBEq,bzY3,c0] <;> with_reducible rfl))
  refine ⟨_,rfl,?_⟩
  rw [sumPut,if_pos q]
  exact S1.drop
 ·simp only [G115_2]
  repeat (first | (with_reducible apply qzV; simp (disch:=omega) only [coreA,Int.reduceBEq,bzY3,c0,c1,d1] <;> with_reducible rfl) | (with_reducible first | apply qzT | apply qzF | apply qzG | apply qzH) | ((with_reducible first | apply qzB | apply qzC | apply qzD); simp (disch:=omega) only [coreA,Int.reduceBEq,bzY3,c0,c1,d1] <;> with_reducible rfl))
  refine Tl.store' S1 1 rfl sz3 rfl rfl (by simp [telRow,crow]) fun h2 S2 _=>?_
  repeat (first | (with_reducible apply qzV; simp (disch:=omega) only [coreA,Int.reduceBEq,bzY3] <;> with_reducible rfl) | (with_reducible first | apply qzT | apply qzF | apply qzG | apply qzH) | ((with_reducible first | apply qzB | apply qzC | apply qzD); simp (disch:=omega) only [coreA,Int.reduceBEq,bzY3] <;> with_reducible rfl))
  refine Tl.store' S2 1 rfl sz2 rfl rfl (by simp [telRow,crow,splice,Value.cells]) fun h3 S3 k3=>?_
  have e0 : h2.cell b1 1 = some (.int .i64 x.i):=S2.cell 0 rfl rfl
  repeat (first | (with_reducible apply qzV; simp (disch:=omega) only [coreA,Int.reduceBEq,bzY3] <;> with_reducible rfl) | (with_reducible first | apply qzT | apply qzF | apply qzG | apply qzH) | ((with_reducible first | apply qzB | apply qzC | apply qzD); simp (disch:=omega) only [coreA,Int.reduceBEq,bzY3] <;> with_reducible rfl))
  simp only [ld2,c1,e0,sameO_some,sameV_int,Bool.and_self,Bool.not_true,Bool.false_or,Bool.or_true,Bool.true_and,chkK_t]
  refine ⟨_,rfl,?_⟩
  rw [sumPut,if_neg q]
  exact S3.drop
theorem f119c {k : Nat} {b c : Nat} {s : Int} {v x : CellD} (hs : s = 1 ∨ s = -1) (S : Stt Try.prog n0 h0 h ((b,telO (.most c s v)) :: L) O) :
  Tl (eInv env (k + 10) (.func 119) #[] #[.pointer (some ⟨b,0,none⟩),x.v] h) fun r=>Stt Try.prog n0 h0 r.2 ((b,telO (.most c s (mostPut s v x))) :: L) O:=by
 rw [F119_call]
 unfold F119
 refine Tl.box' S rfl (by rw [sz37]; rfl) fun b1 h1 S1 _=>?_
 have c0 : h1.cell b1 0 = some (.int .i64 x.k):=S1.cell 0 rfl rfl
 have r0 : h1.row b1 0 3 = some (crow x):=S1.row 0 rfl rfl
 have d0 : h1.cell b 2 = some (.int .i64 v.k):=S1.cell 1 rfl rfl
 have d1 : h1.cell b 1 = some (.int .i64 s):=S1.cell 1 rfl rfl
 have d2 : h1.row b 2 3 = some (crow v):=S1.part 1 rfl (by simp [telRow,crow]) rfl
 simp only [G119_1]
 by_cases q : x.k = 0
 ·repeat (first | (with_reducible apply qzV; simp (disch:=omega) only [coreA,Int.reduceBEq,bzY3,c0,r0,d0,d1,d2] <;> with_reducible rfl) | (with_reducible first | apply qzT | apply qzF | apply qzG | apply qzH) | ((with_reducible first | apply qzB | apply qzC | apply qzD); simp (disch:=omega) only [coreA,Int.reduceBEq,bzY3,c0,r0,d0,d1,d2] <;> with_reducible rfl))
  simp only [Bool.not_false,Bool.true_or,Bool.true_and,chkK_t]
  repeat (first | (with_reducible apply qzV; simp (disch:=omega) only [coreA,Int.reduceBEq,bzY3] <;> with_reducible rfl) | (with_reducible first | apply qzT | apply qzF | apply qzG | apply qzH) | ((with_reducible first | apply qzB | apply qzC | apply qzD); simp (disch:=omega) only [coreA,Int.reduceBEq,bzY3] <;> with_reducible rfl))
  refine ⟨_,rfl,?_⟩
  rw [mostPut,if_neg (fun h=>h.1 q)]
  exact S1.drop
 ·by_cases q2 : v.k = 0
  ·repeat (first | (with_reducible apply qzV; simp (disch:=omega) only [coreA,Int.reduceBEq,bzY3,c0,r0,d0,d1,d2] <;> with_reducible rfl) | (with_reducible first | apply qzT | apply qzF | apply qzG | apply qzH) | ((with_reducible first | apply qzB | apply qzC | apply qzD); simp (disch:=omega) only [coreA,Int.reduceBEq,bzY3,c0,r0,d0,d1,d2] <;> with_reducible rfl))
   simp only [Bool.not_false,Bool.true_or,Bool.true_and,chkK_t]
   repeat (first | (with_reducible apply qzV; simp (disch:=omega) only [coreA,Int.reduceBEq,bzY3,r0] <;> with_reducible rfl) | (with_reducible first | apply qzT | apply qzF | apply qzG | apply qzH) | ((with_reducible first | apply qzB | apply qzC | apply qzD); simp (disch:=omega) only [coreA,Int.reduceBEq,bzY3,r0] <;> with_reducible rfl))
   refine Tl.store' S1 1 rfl sz37 rfl rfl (by simp [telRow,crow]) fun h3 S3 k3=>?_
   repeat (first | (with_reducible apply qzV; simp (disch:=omega) only [coreA,Int.reduceBEq,bzY3] <;> with_reducible rfl) | (with_reducible first | apply qzT | apply qzF | apply qzG | apply qzH) | ((with_reducible first | apply qzB | apply qzC | apply qzD); simp (disch:=omega) only [coreA,Int.reduceBEq,bzY3] <;> with_reducible rfl))
   refine ⟨_,rfl,?_⟩
   rw [mostPut,if_pos ⟨q,.inl q2⟩]
   exact S3.drop
  ·repeat (first | (with_reducible apply qzV; simp (disch:=omega) only [coreA,Int.reduceBEq,bzY3,c0,r0,d0,d1,d2] <;> with_reducible rfl) | (with_reducible first | apply qzT | apply qzF | apply qzG | apply qzH) | ((with_reducible first | apply qzB | apply qzC | apply qzD); simp (disch:=omega) only [coreA,Int.reduceBEq,bzY3,c0,r0,d0,d1,d2] <;> with_reducible rfl))
   refine Tl.call' S1 (f120c (k:=k) x v h1) fun h2 S2 g2=>?_
   have r1 : h2.row b1 0 3 = some (crow x):=S2.row 0 rfl rfl
   have e1 : h2.cell b 1 = some (.int .i64 s):=S2.cell 1 rfl rfl
   have hcm : x.cmp v = -1 ∨ x.cmp v = 0 ∨ x.cmp v = 1:=CellD.cmp_range x v
   have hsm : s * x.cmp v = -1 ∨ s * x.cmp v = 0 ∨ s * x.cmp v = 1:=by
    rcases hs with h | h <;> rcases hcm with h' | h' | h' <;> rw [h,h'] <;> decide
   have wm : IntKind.i64.wrap (s * x.cmp v) = s * x.cmp v:=wr_i64 (by omega)
   by_cases q3 : s * x.cmp v > 0
   ·repeat (first | (with_reducible apply qzV; simp (disch:=omega) only [coreA,Int.reduceBEq,bzY3,wm] <;> with_reducible rfl) | (with_reducible first | apply qzT | apply qzF | apply qzG | apply qzH) | ((with_reducible first | apply qzB | apply qzC | apply qzD); simp (disch:=omega) only [coreA,Int.reduceBEq,bzY3,wm] <;> with_reducible rfl))
    simp only [ld3,d1,e1,sameO_some,sameV_int,Bool.and_self,Bool.not_true,Bool.false_or,Bool.or_true,Bool.true_and,chkK_t]
    repeat (first | (with_reducible apply qzV; simp (disch:=omega) only [coreA,Int.reduceBEq,bzY3,r1] <;> with_reducible rfl) | (with_reducible first | apply qzT | apply qzF | apply qzG | apply qzH) | ((with_reducible first | apply qzB | apply qzC | apply qzD); simp (disch:=omega) only [coreA,Int.reduceBEq,bzY3,r1] <;> with_reducible rfl))
    refine Tl.store' S2 1 rfl sz37 rfl rfl (by simp [telRow,crow]) fun h3 S3 k3=>?_
    repeat (first | (with_reducible apply qzV; simp (disch:=omega) only [coreA,Int.reduceBEq,bzY3] <;> with_reducible rfl) | (with_reducible first | apply qzT | apply qzF | apply qzG | apply qzH) | ((with_reducible first | apply qzB | apply qzC | apply qzD); simp (disch:=omega) only [coreA,Int.reduceBEq,bzY3] <;> with_reducible rfl))
    refine ⟨_,rfl,?_⟩
    rw [mostPut,if_pos ⟨q,.inr q3⟩]
    exact S3.drop
   ·repeat (first | (with_reducible apply qzV; simp (disch:=omega) only [coreA,Int.reduceBEq,bzY3,wm] <;> with_reducible rfl) | (with_reducible first | apply qzT | apply qzF | apply qzG | apply qzH) | ((with_reducible first | apply qzB | apply qzC | apply qzD); simp (disch:=omega) only [coreA,Int.reduceBEq,bzY3,wm] <;> with_reducible rfl))
    simp only [ld3,d1,e1,sameO_some,sameV_int,Bool.and_self,Bool.not_true,Bool.false_or,Bool.or_true,Bool.true_and,chkK_t]
    repeat (first | (with_reducible apply qzV; simp (disch:=omega) only [coreA,Int.reduceBEq,bzY3] <;> with_reducible rfl) | (with_reducible first | apply qzT | apply qzF | apply qzG | apply qzH) | ((with_reducible first | apply qzB | apply qzC | apply qzD); simp (disch:=omega) only [coreA,Int.reduceBEq,bzY3] <;> with_reducible rfl))
    refine ⟨_,rfl,?_⟩
    rw [mostPut,if_neg (fun h=>h.2.elim q2 q3)]
    exact S2.drop
/-- A row is told. -/
theorem tel_add {k b : Nat} {rv : Value} {row : List CellD} {t : Tel} (S : Stt Try.prog n0 h0 h ((b,telO t) :: L) O) (R : Cells h rv row) (ht : telIn row.length t) (hl : row.length ≤ 1000) :
  Tl (eInv env (k + 20) (.method "shadowbook/agg.add") #[] #[telV t b, rv] h) fun r => Stt Try.prog n0 h0 r.2 ((b, telO (telAdd row t)) :: L) O := by
 cases t with
 | cnt n =>
  rw [telV,telP,meth_addC]
  unfold F109
  have c0 : h.cell b 0 = some (.int .i64 n):=S.cell 0 rfl rfl
  repeat (first | (with_reducible apply qzV; simp (disch:=omega) only [coreA,Int.reduceBEq,bzY3,c0] <;> with_reducible rfl) | (with_reducible first | apply qzT | apply qzF | apply qzG | apply qzH) | ((with_reducible first | apply qzB | apply qzC | apply qzD); simp (disch:=omega) only [coreA,Int.reduceBEq,bzY3,c0] <;> with_reducible rfl))
  refine Tl.store' S 0 rfl sz2 rfl rfl (by simp [telRow]) fun h2 S2 _=>?_
  repeat (first | (with_reducible apply qzV; simp (disch:=omega) only [coreA,Int.reduceBEq,bzY3] <;> with_reducible rfl) | (with_reducible first | apply qzT | apply qzF | apply qzG | apply qzH) | ((with_reducible first | apply qzB | apply qzC | apply qzD); simp (disch:=omega) only [coreA,Int.reduceBEq,bzY3] <;> with_reducible rfl))
  exact ⟨_,rfl,S2⟩
 | sum c v =>
  rw [telV,telP,meth_addS]
  unfold F112
  have c0 : h.cell b 0 = some (.int .i64 c):=S.cell 0 rfl rfl
  obtain ⟨x,ex⟩ : ∃ x,row[c]? = some x:=⟨_,List.getElem?_eq_getElem ht⟩
  obtain ⟨b',o',hp,hrow⟩:=R.at_ ex
  repeat (first | (with_reducible apply qzV; simp (disch:=omega) only [coreA,Int.reduceBEq,bzY3,c0,hp,hrow] <;> with_reducible rfl) | (with_reducible first | apply qzT | apply qzF | apply qzG | apply qzH) | ((with_reducible first | apply qzB | apply qzC | apply qzD); simp (disch:=omega) only [coreA,Int.reduceBEq,bzY3,c0,hp,hrow] <;> with_reducible rfl))
  refine Tl.bind (f115c (k:=k + 18) (x:=x) S) fun r S2=>?_
  repeat (first | (with_reducible apply qzV; simp (disch:=omega) only [coreA,Int.reduceBEq,bzY3] <;> with_reducible rfl) | (with_reducible first | apply qzT | apply qzF | apply qzG | apply qzH) | ((with_reducible first | apply qzB | apply qzC | apply qzD); simp (disch:=omega) only [coreA,Int.reduceBEq,bzY3] <;> with_reducible rfl))
  refine ⟨_,rfl,?_⟩
  rw [telAdd,atC_in (by omega) (by simpa using ex)]
  exact S2
 | most c s v =>
  rw [telV,telP,meth_addM]
  unfold F116
  have c0 : h.cell b 0 = some (.int .i64 c):=S.cell 0 rfl rfl
  obtain ⟨x,ex⟩ : ∃ x,row[c]? = some x:=⟨_,List.getElem?_eq_getElem ht.1⟩
  obtain ⟨b',o',hp,hrow⟩:=R.at_ ex
  repeat (first | (with_reducible apply qzV; simp (disch:=omega) only [coreA,Int.reduceBEq,bzY3,c0,hp,hrow] <;> with_reducible rfl) | (with_reducible first | apply qzT | apply qzF | apply qzG | apply qzH) | ((with_reducible first | apply qzB | apply qzC | apply qzD); simp (disch:=omega) only [coreA,Int.reduceBEq,bzY3,c0,hp,hrow] <;> with_reducible rfl))
  refine Tl.bind (f119c (k:=k + 9) (x:=x) ht.2 S) fun r S2=>?_
  repeat (first | (with_reducible apply qzV; simp (disch:=omega) only [coreA,Int.reduceBEq,bzY3] <;> with_reducible rfl) | (with_reducible first | apply qzT | apply qzF | apply qzG | apply qzH) | ((with_reducible first | apply qzB | apply qzC | apply qzD); simp (disch:=omega) only [coreA,Int.reduceBEq,bzY3] <;> with_reducible rfl))
  refine ⟨_,rfl,?_⟩
  rw [telAdd,atC_in (by omega) (by simpa using ex)]
  exact S2
end
/-- What it tells. -/
theorem tel_told {k b : Nat} {t : Tel} {h : AH} (hg : h.get b = some (telO t)) : Tl (eInv env (k + 2) (.method "shadowbook/agg.told") #[] #[telV t b] h) fun r => r.1 = (telTold t).v ∧ Grow h r.2 := by
 cases t with
 | cnt n =>
  rw [telV,telP,meth_toldC]
  unfold F111
  refine Tl.alloc' (Stt.init h) ze37 (by rfl) fun b2 h1 S1 g1=>?_
  have c0 : h1.cell b 0 = some (.int .i64 n):=g1.cell (by rw [cell_of hg]; rfl)
  repeat (first | (with_reducible apply qzV; simp (disch:=omega) only [coreA,Int.reduceBEq,bzY3,c0,bdCn] <;> with_reducible rfl) | (with_reducible first | apply qzT | apply qzF | apply qzG | apply qzH) | ((with_reducible first | apply qzB | apply qzC | apply qzD); simp (disch:=omega) only [coreA,Int.reduceBEq,bzY3,c0,bdCn] <;> with_reducible rfl))
  refine Tl.store' S1 0 rfl sz37 rfl rfl (by decide) fun h2 S2 _=>?_
  have r3 : h2.row b2 0 3 = some (crow ⟨1,n,.empty⟩):=S2.row 0 rfl rfl
  repeat (first | (with_reducible apply qzV; simp (disch:=omega) only [coreA,Int.reduceBEq,bzY3,r3] <;> with_reducible rfl) | (with_reducible first | apply qzT | apply qzF | apply qzG | apply qzH) | ((with_reducible first | apply qzB | apply qzC | apply qzD); simp (disch:=omega) only [coreA,Int.reduceBEq,bzY3,r3] <;> with_reducible rfl))
  exact ⟨_,rfl,rfl,S2.grow⟩
 | sum c v =>
  rw [telV,telP,meth_toldS]
  unfold F114
  refine Tl.alloc' (Stt.init h) ze37 (by rfl) fun b2 h1 S1 g1=>?_
  have c0 : h1.row b 1 3 = some (crow v):=g1.row (by rw [row_of hg]; rfl)
  repeat (first | (with_reducible apply qzV; simp (disch:=omega) only [coreA,Int.reduceBEq,bzY3,c0] <;> with_reducible rfl) | (with_reducible first | apply qzT | apply qzF | apply qzG | apply qzH) | ((with_reducible first | apply qzB | apply qzC | apply qzD); simp (disch:=omega) only [coreA,Int.reduceBEq,bzY3,c0] <;> with_reducible rfl))
  refine Tl.store' S1 0 rfl sz37 rfl rfl (by decide) fun h2 S2 _=>?_
  have r3 : h2.row b2 0 3 = some (crow v):=S2.row 0 rfl rfl
  repeat (first | (with_reducible apply qzV; simp (disch:=omega) only [coreA,Int.reduceBEq,bzY3,r3] <;> with_reducible rfl) | (with_reducible first | apply qzT | apply qzF | apply qzG | apply qzH) | ((with_reducible first | apply qzB | apply qzC | apply qzD); simp (disch:=omega) only [coreA,Int.reduceBEq,bzY3,r3] <;> with_reducible rfl))
  exact ⟨_,rfl,rfl,S2.grow⟩
 | most c s v =>
  rw [telV,telP,meth_toldM]
  unfold F118
  refine Tl.alloc' (Stt.init h) ze37 (by rfl) fun b2 h1 S1 g1=>?_
  have c0 : h1.row b 2 3 = some (crow v):=g1.row (by rw [row_of hg]; rfl)
  repeat (first | (with_reducible apply qzV; simp (disch:=omega) only [coreA,Int.reduceBEq,bzY3,c0] <;> with_reducible rfl) | (with_reducible first | apply qzT | apply qzF | apply qzG | apply qzH) | ((with_reducible first | apply qzB | apply qzC | apply qzD); simp (disch:=omega) only [coreA,Int.reduceBEq,bzY3,c0] <;> with_reducible rfl))
  refine Tl.store' S1 0 rfl sz37 rfl rfl (by decide) fun h2 S2 _=>?_
  have r3 : h2.row b2 0 3 = some (crow v):=S2.row 0 rfl rfl
  repeat (first | (with_reducible apply qzV; simp (disch:=omega) only [coreA,Int.reduceBEq,bzY3,r3] <;> with_reducible rfl) | (with_reducible first | apply qzT | apply qzF | apply qzG | apply qzH) | ((with_reducible first | apply qzB | apply qzC | apply qzD); simp (disch:=omega) only [coreA,Int.reduceBEq,bzY3,r3] <;> with_reducible rfl))
  exact ⟨_,rfl,rfl,S2.grow⟩
theorem bdN : pBuild Try.prog 111 #[] = some (.agg #[.int .i64 0]):=by kernel_rfl
theorem bdS (c : Int) : pBuild Try.prog 114 #[(0,.int .i64 c)] = some (.agg #[.int .i64 c,.int .i64 0,.int .i64 0,.string .empty]):=by kernel_rfl
theorem bdM (c s : Int) : pBuild Try.prog 117 #[(0,.int .i64 c),(1,.int .i64 s)] = some (.agg #[.int .i64 c,.int .i64 s,.int .i64 0,.int .i64 0,.string .empty]):=by kernel_rfl
theorem mkIf (t b : Nat) : pMakeIface Try.prog 109 (.pointer (some ⟨b,0,none⟩)) = some (.iface 109 (.pointer (some ⟨b,0,none⟩))) ∧ pMakeIface Try.prog 112 (.pointer (some ⟨b,0,none⟩)) = some (.iface 112 (.pointer (some ⟨b,0,none⟩))) ∧ pMakeIface Try.prog 115 (.pointer (some ⟨b,0,none⟩)) = some (.iface 115 (.pointer (some ⟨b,0,none⟩))) :=
 ⟨by kernel_rfl,by kernel_rfl,by kernel_rfl⟩
theorem f58c {k : Nat} {n0 : Nat} {h0 h : AH} {L : List (Nat × AO)} {O : List OS} {a : AggD} (S : Stt Try.prog n0 h0 h L O) (ha : a.k = 1 ∨ 0 ≤ a.c) :
  Tl (eInv env (k + 1) (.func 58) #[] #[a.v] h) fun r=>∃ b,r.1 = telV (telNew a) b ∧ Stt Try.prog n0 h0 r.2 ((b,telO (telNew a)) :: L) O ∧ Grow h r.2:=by
 rw [F58_call]
 unfold F58
 refine Tl.box' S rfl (by rw [sz28]; rfl) fun b1 h1 S1 g1=>?_
 have c0 : h1.cell b1 0 = some (.int .i64 a.k):=S1.cell 0 rfl rfl
 have c1 : h1.cell b1 1 = some (.int .i64 a.c):=S1.cell 0 rfl rfl
 unfold telNew
 by_cases q1 : a.k = 1
 ·rw [if_pos q1]
  repeat (first | (with_reducible apply qzV; simp (disch:=omega) only [coreA,Int.reduceBEq,bzY3,c0,bdN] <;> with_reducible rfl) | (with_reducible first | apply qzT | apply qzF | apply qzG | apply qzH) | ((with_reducible first | apply qzB | apply qzC | apply qzD); simp (disch:=omega) only [coreA,Int.reduceBEq,bzY3,c0,bdN] <;> with_reducible rfl))
  refine Tl.box' S1 rfl (by rw [sz111]; rfl) fun b2 h2 S2 g2=>?_
  have mk:=(mkIf 0 b2).1
  repeat (first | (with_reducible apply qzV; simp (disch:=omega) only [coreA,Int.reduceBEq,bzY3,mk] <;> with_reducible rfl) | (with_reducible first | apply qzT | apply qzF | apply qzG | apply qzH) | ((with_reducible first | apply qzB | apply qzC | apply qzD); simp (disch:=omega) only [coreA,Int.reduceBEq,bzY3,mk] <;> with_reducible rfl))
  exact ⟨_,rfl,b2,rfl,(S2.perm (.swap _ _ _)).drop,g1.trans g2⟩
 ·have hc : 0 ≤ a.c:=ha.resolve_left q1
  have ec : a.c = ((a.c.toNat : Nat) : Int):=by omega
  rw [if_neg q1]
  by_cases q2 : a.k = 2
  ·rw [if_pos q2]
   repeat (first | (with_reducible apply qzV; simp (disch:=omega) only [coreA,Int.reduceBEq,bzY3,c0,c1,bdS] <;> with_reducible rfl) | (with_reducible first | apply qzT | apply qzF | apply qzG | apply qzH) | ((with_reducible first | apply qzB | apply qzC | apply qzD); simp (disch:=omega) only [coreA,Int.reduceBEq,bzY3,c0,c1,bdS] <;> with_reducible rfl))
   refine Tl.box' S1 rfl (by rw [sz114]; rfl) fun b2 h2 S2 g2=>?_
   have mk:=(mkIf 0 b2).2.1
   repeat (first | (with_reducible apply qzV; simp (disch:=omega) only [coreA,Int.reduceBEq,bzY3,mk] <;> with_reducible rfl) | (with_reducible first | apply qzT | apply qzF | apply qzG | apply qzH) | ((with_reducible first | apply qzB | apply qzC | apply qzD); simp (disch:=omega) only [coreA,Int.reduceBEq,bzY3,mk] <;> with_reducible rfl))
   refine ⟨_,rfl,b2,rfl,?_,g1.trans g2⟩
   have:=(S2.perm (.swap _ _ _)).drop
   rw [ec] at this
   exact this
  ·rw [if_neg q2]
   by_cases q3 : a.k = 3
   ·rw [if_pos q3]
    repeat (first | (with_reducible apply qzV; simp (disch:=omega) only [coreA,Int.reduceBEq,bzY3,c0,c1,bdM] <;> with_reducible rfl) | (with_reducible first | apply qzT | apply qzF | apply qzG | apply qzH) | ((with_reducible first | apply qzB | apply qzC | apply qzD); simp (disch:=omega) only [coreA,Int.reduceBEq,bzY3,c0,c1,bdM] <;> with_reducible rfl))
    refine Tl.box' S1 rfl (by rw [sz117]; rfl) fun b2 h2 S2 g2=>?_
    have mk:=(mkIf 0 b2).2.2
    repeat (first | (with_reducible apply qzV; simp (disch:=omega) only [coreA,Int.reduceBEq,bzY3,mk] <;> with_reducible rfl) | (with_reducible first | apply qzT | apply qzF | apply qzG | apply qzH) | ((with_reducible first | apply qzB | apply qzC | apply qzD); simp (disch:=omega) only [coreA,Int.reduceBEq,bzY3,mk] <;> with_reducible rfl))
    refine ⟨_,rfl,b2,rfl,?_,g1.trans g2⟩
    have:=(S2.perm (.swap _ _ _)).drop
    rw [ec] at this
    exact this
   ·rw [if_neg q3]
    repeat (first | (with_reducible apply qzV; simp (disch:=omega) only [coreA,Int.reduceBEq,bzY3,c0,c1,bdM] <;> with_reducible rfl) | (with_reducible first | apply qzT | apply qzF | apply qzG | apply qzH) | ((with_reducible first | apply qzB | apply qzC | apply qzD); simp (disch:=omega) only [coreA,Int.reduceBEq,bzY3,c0,c1,bdM] <;> with_reducible rfl))
    refine Tl.box' S1 rfl (by rw [sz117]; rfl) fun b2 h2 S2 g2=>?_
    have mk:=(mkIf 0 b2).2.2
    repeat (first | (with_reducible apply qzV; simp (disch:=omega) only [coreA,Int.reduceBEq,bzY3,mk] <;> with_reducible rfl) | (with_reducible first | apply qzT | apply qzF | apply qzG | apply qzH) | ((with_reducible first | apply qzB | apply qzC | apply qzD); simp (disch:=omega) only [coreA,Int.reduceBEq,bzY3,mk] <;> with_reducible rfl))
    refine ⟨_,rfl,b2,rfl,?_,g1.trans g2⟩
    have:=(S2.perm (.swap _ _ _)).drop
    rw [ec] at this
    exact this
end Go.Proofs.Ytgklcfnjahomjaa.Sh
