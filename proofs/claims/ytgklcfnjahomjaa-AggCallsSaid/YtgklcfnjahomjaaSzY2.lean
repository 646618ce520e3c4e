/- Aggregates as they lie in memory; some cells of a row. -/
import Derived.Test.YtgklcfnjahomjaaSzVr
import Derived.Test.YtgklcfnjahomjaaSzWp
set_option linter.unusedVariables false
set_option linter.unusedSimpArgs false
set_option maxRecDepth 100000
namespace Go.Proofs.Ytgklcfnjahomjaa.Sh
open Go Go.RowKit Go.Proofs.Ev
theorem bzY2 : type_of% (And.intro @ld3 (And.intro @ld2 (And.intro @ld9 (And.intro @ld37 (And.intro @ld28 (And.intro @fa37_0 (And.intro @fa37_1 (And.intro @fa37_2 (And.intro @fa28_0 (And.intro @fa28_1 (@Nat.add_zero))))))))))):=And.intro @ld3 (And.intro @ld2 (And.intro @ld9 (And.intro @ld37 (And.intro @ld28 (And.intro @fa37_0 (And.intro @fa37_1 (And.intro @fa37_2 (And.intro @fa28_0 (And.intro @fa28_1 (@Nat.add_zero))))))))))
/-- An aggregate. -/
structure AggD where
 k : Int
 c : Int
def arow (a : AggD) : List Value:=[.int .i64 a.k,.int .i64 a.c]
def AggD.v (a : AggD) : Value:=.agg #[.int .i64 a.k,.int .i64 a.c]
def Aggs (h : AH) (v : Value) (l : List AggD) : Prop:=SlZ Try.prog h v 2 (l.map arow)
theorem Aggs.grow {h h' : AH} {v : Value} {l : List AggD} (S : Aggs h v l) (g : Grow h h') : Aggs h' v l:=SlZ.grow S g
theorem Aggs.len {h h' : AH} {v : Value} {l : List AggD} (S : Aggs h v l) : pLen Try.prog #[29] v h' = some (.int .i64 l.length):=by
 have:=SlZ.len S u29 (h':=h')
 rwa [List.length_map] at this
theorem Aggs.at_ {h : AH} {v : Value} {l : List AggD} (S : Aggs h v l) {i : Nat} {x : AggD} (hi : l[i]? = some x) :
  ∃ b o,pIndexAddr Try.prog 29 v (.int .i64 i) = some (.pointer (some ⟨b,o,none⟩)) ∧ h.row b o 2 = some (arow x) :=
 SlZ.at_ S (k:=.i64) (by simp [hi]) u29 sz28
/-- The cell at a place; a null where there is none. -/
def atC (row : List CellD) (i : Int) : CellD:=if 0 ≤ i then (row[i.toNat]?).getD cellZ else cellZ
def pickL (row : List CellD) (by_ : List Int) : List CellD:=by_.map (atC row)
theorem bsC1 (c : CellD) (h : AH) : pBuildSlice Try.prog 34 1 #[(0,CellD.v c)] h = some (.slice (some ⟨h.n,0,none⟩) 1 1,h.alloc (.cells (crow c) 37 true)):=by kernel_rfl
theorem atC_in {row : List CellD} {z : Int} {x : CellD} (h0 : 0 ≤ z) (hx : row[z.toNat]? = some x) : atC row z = x:=by unfold atC; rw [if_pos h0,hx]; rfl
theorem atC_out {row : List CellD} {z : Int} (h : ¬ (0 ≤ z ∧ z < row.length)) : atC row z = cellZ:=by
 unfold atC
 split
 ·rw [List.getElem?_eq_none (by omega)]; rfl
 ·rfl
theorem take_map1 {row : List CellD} {by_ : List Int} {i : Nat} {z : Int} (ez : by_[i]? = some z) : (pickL row (by_.take i)).map crow ++ [crow (atC row z)] = (pickL row (by_.take (i + 1))).map crow:=by
 unfold pickL
 rw [List.take_add_one,ez,List.map_append,List.map_append]; rfl
theorem pick_len (row : List CellD) (by_ : List Int) (i : Nat) : ((pickL row (by_.take i)).map crow).length ≤ i:=by unfold pickL; rw [List.length_map,List.length_map,List.length_take]; omega
theorem f47_loop {β : Type} {k : Nat} {Q : β→Prop} {h0 : AH} {rv bv : Value} {row : List CellD} {by_ : List Int} (R : Cells h0 rv row) (B : IntsZ h0 bv by_) (hl : by_.length ≤ 2 ^ 20) {ke0 : Value→Value→Value→Value→Value→Value→AH→Option β} (n : Nat) :
  ∀ {i j : Nat} {h : AH} {x5 : Value},i + n = by_.length→n < j→Stt Try.prog h0.n h0 h [] [(x5,3,(pickL row (by_.take i)).map crow)] →
   (∀ h' v' y0 y1 y2 y3 y4,Stt Try.prog h0.n h0 h' [] [(v',3,(pickL row by_).map crow)]→Tl (ke0 y0 v' y1 y2 y3 y4 h') Q) →
   Tl (F47_lrlrr (eInv env k) k j rv x5 bv (.int .i64 by_.length) (.int .i64 i) h ke0) Q:=by
 have hv : ∀ h',pLen Try.prog #[34] rv h' = some (.int .i64 row.length):=fun h'=>R.len
 induction n with
 | zero =>
  intro i j h x5 hi hj S hk
  obtain ⟨j,rfl⟩ : ∃ q,j = q + 1:=⟨j - 1,by omega⟩
  simp only [F47_lrlrr]
  repeat (first | (with_reducible apply qzV; simp (disch:=omega) only [coreA,Int.reduceBEq,bzY2] <;> with_reducible rfl) | (with_reducible first | apply qzT | apply qzF | apply qzG | apply qzH) | ((with_reducible first | apply qzB | apply qzC | apply qzD); simp (disch:=omega) only [coreA,Int.reduceBEq,bzY2] <;> with_reducible rfl))
  exact hk _ _ _ _ _ _ _ (by rw [List.take_of_length_le (by omega)] at S; exact S)
 | succ n ih =>
  intro i j h x5 hi hj S hk
  obtain ⟨j,rfl⟩ : ∃ q,j = q + 1:=⟨j - 1,by omega⟩
  obtain ⟨z,ez⟩ : ∃ x,by_[i]? = some x:=⟨_,List.getElem?_eq_getElem (by omega)⟩
  obtain ⟨b,o,hp,hc⟩:=(B.grow S.grow).at_ ez
  have e : (i : Int) + 1 = ((i + 1 : Nat) : Int):=by omega
  have et:=take_map1 (row:=row) ez
  have hpl:=pick_len row by_ i
  simp only [F47_lrlrr,F47_rlrrllrrllrlrr,G47_6]
  repeat (first | (with_reducible apply qzV; simp (disch:=omega) only [coreA,Int.reduceBEq,bzY2,hp,hc,bdC0] <;> with_reducible rfl) | (with_reducible first | apply qzT | apply qzF | apply qzG | apply qzH) | ((with_reducible first | apply qzB | apply qzC | apply qzD); simp (disch:=omega) only [coreA,Int.reduceBEq,bzY2,hp,hc,bdC0] <;> with_reducible rfl))
  refine Tl.alloc' S ze37 (by rfl) fun b8 h1 S1 g1=>?_
  refine Tl.store' S1 0 rfl sz37 rfl rfl (by decide) fun h2 S2 k2=>?_
  have S2 : Stt Try.prog h0.n h0 h2 [(b8,.cells (crow cellZ) 37 true)] [(x5,3,(pickL row (by_.take i)).map crow)]:=S2
  by_cases q1 : 0 ≤ z
  ·by_cases q2 : z < row.length
   ·obtain ⟨m,rfl⟩ : ∃ m : Nat,z = m:=⟨z.toNat,by omega⟩
    obtain ⟨x,ex⟩ : ∃ x,row[m]? = some x:=⟨_,List.getElem?_eq_getElem (by omega)⟩
    obtain ⟨b',o',hp',hrow'⟩:=(R.grow S2.grow).at_ ex
    rw [atC_in q1 (by simpa using ex)] at et
    repeat (first | (with_reducible apply qzV; simp (disch:=omega) only [coreA,Int.reduceBEq,bzY2,hv,hp',hrow'] <;> with_reducible rfl) | (with_reducible first | apply qzT | apply qzF | apply qzG | apply qzH) | ((with_reducible first | apply qzB | apply qzC | apply qzD); simp (disch:=omega) only [coreA,Int.reduceBEq,bzY2,hv,hp',hrow'] <;> with_reducible rfl))
    refine Tl.store' S2 0 rfl sz37 rfl rfl (by decide) fun h3 S3 k3=>?_
    have S3 : Stt Try.prog h0.n h0 h3 [(b8,.cells (crow x) 37 true)] [(x5,3,(pickL row (by_.take i)).map crow)]:=S3
    have r3 : h3.row b8 0 3 = some (crow x):=S3.row 0 rfl rfl
    repeat (first | (with_reducible apply qzV; simp (disch:=omega) only [coreA,Int.reduceBEq,bzY2,r3] <;> with_reducible rfl) | (with_reducible first | apply qzT | apply qzF | apply qzG | apply qzH) | ((with_reducible first | apply qzB | apply qzC | apply qzD); simp (disch:=omega) only [coreA,Int.reduceBEq,bzY2,r3] <;> with_reducible rfl))
    refine Tl.push S3 0 rfl appC (bsC1 x _) rfl rfl (by omega) fun v' h4 S4=>?_
    repeat (first | (with_reducible apply qzV; simp (disch:=omega) only [coreA,Int.reduceBEq,bzY2] <;> with_reducible rfl) | (with_reducible first | apply qzT | apply qzF | apply qzG | apply qzH) | ((with_reducible first | apply qzB | apply qzC | apply qzD); simp (disch:=omega) only [coreA,Int.reduceBEq,bzY2] <;> with_reducible rfl))
    rw [e]
    exact ih (by omega) (by omega) (by rw [← et]; exact S4.drop) hk
   ·rw [atC_out (by omega)] at et
    have r3 : h2.row b8 0 3 = some (crow cellZ):=S2.row 0 rfl rfl
    repeat (first | (with_reducible apply qzV; simp (disch:=omega) only [coreA,Int.reduceBEq,bzY2,hv,r3] <;> with_reducible rfl) | (with_reducible first | apply qzT | apply qzF | apply qzG | apply qzH) | ((with_reducible first | apply qzB | apply qzC | apply qzD); simp (disch:=omega) only [coreA,Int.reduceBEq,bzY2,hv,r3] <;> with_reducible rfl))
    refine Tl.push S2 0 rfl appC (bsC1 cellZ _) rfl rfl (by omega) fun v' h4 S4=>?_
    repeat (first | (with_reducible apply qzV; simp (disch:=omega) only [coreA,Int.reduceBEq,bzY2] <;> with_reducible rfl) | (with_reducible first | apply qzT | apply qzF | apply qzG | apply qzH) | ((with_reducible first | apply qzB | apply qzC | apply qzD); simp (disch:=omega) only [coreA,Int.reduceBEq,bzY2] <;> with_reducible rfl))
    rw [e]
    exact ih (by omega) (by omega) (by rw [← et]; exact S4.drop) hk
  ·rw [atC_out (by omega)] at et
   have r3 : h2.row b8 0 3 = some (crow cellZ):=S2.row 0 rfl rfl
   repeat (first | (with_reducible apply qzV; simp (disch:=omega) only [coreA,Int.reduceBEq,bzY2,hv,r3] <;> with_reducible rfl) | (with_reducible first | apply qzT | apply qzF | apply qzG | apply qzH) | ((with_reducible first | apply qzB | apply qzC | apply qzD); simp (disch:=omega) only [coreA,Int.reduceBEq,bzY2,hv,r3] <;> with_reducible rfl))
   refine Tl.push S2 0 rfl appC (bsC1 cellZ _) rfl rfl (by omega) fun v' h4 S4=>?_
   repeat (first | (with_reducible apply qzV; simp (disch:=omega) only [coreA,Int.reduceBEq,bzY2] <;> with_reducible rfl) | (with_reducible first | apply qzT | apply qzF | apply qzG | apply qzH) | ((with_reducible first | apply qzB | apply qzC | apply qzD); simp (disch:=omega) only [coreA,Int.reduceBEq,bzY2] <;> with_reducible rfl))
   rw [e]
   exact ih (by omega) (by omega) (by rw [← et]; exact S4.drop) hk
theorem f47c {k : Nat} {h : AH} {rv bv : Value} {row : List CellD} {by_ : List Int} (R : Cells h rv row) (B : IntsZ h bv by_) (hl : by_.length ≤ 2 ^ 20) (hk : by_.length < k) :
  Tl (eInv env (k + 1) (.func 47) #[] #[rv,bv] h) fun r=>Stt Try.prog h.n h r.2 [] [(r.1,3,(pickL row by_).map crow)]:=by
 rw [F47_call]
 unfold F47
 have hv : ∀ h',pLen Try.prog #[24] bv h' = some (.int .i64 by_.length):=fun h'=>B.len
 repeat (first | (with_reducible apply qzV; simp (disch:=omega) only [coreA,Int.reduceBEq,bzY2,hv] <;> with_reducible rfl) | (with_reducible first | apply qzT | apply qzF | apply qzG | apply qzH) | ((with_reducible first | apply qzB | apply qzC | apply qzD); simp (disch:=omega) only [coreA,Int.reduceBEq,bzY2,hv] <;> with_reducible rfl))
 exact f47_loop R B hl by_.length (i:=0) (by omega) (by omega) ((Stt.init h).nil 3) fun h' v' y0 y1 y2 y3 y4 S=>⟨_,rfl,S⟩
theorem f15_loop {β : Type} {k : Nat} {Q : β→Prop} {h0 : AH} {rv bv : Value} {row : List CellD} {by_ : List Int} (R : Cells h0 rv row) (B : IntsZ h0 bv by_) (hl : by_.length ≤ 2 ^ 20) {ke0 : Value→Value→Value→Value→Value→AH→Option β} (n : Nat) :
  ∀ {i j : Nat} {h : AH} {x5 : Value},i + n = by_.length→n < j→Stt Try.prog h0.n h0 h [] [(x5,3,(pickL row (by_.take i)).map crow)] →
   (∀ h' v' y0 y1 y2 y3,Stt Try.prog h0.n h0 h' [] [(v',3,(pickL row by_).map crow)]→Tl (ke0 y0 y1 v' y2 y3 h') Q) →
   Tl (F15_lrlrr (eInv env k) k j rv bv x5 (.int .i64 i) h ke0) Q:=by
 have hv : ∀ h',pLen Try.prog #[34] rv h' = some (.int .i64 row.length):=fun h'=>R.len
 have hb : ∀ h',pLen Try.prog #[24] bv h' = some (.int .i64 by_.length):=fun h'=>B.len
 induction n with
 | zero =>
  intro i j h x5 hi hj S hk
  obtain ⟨j,rfl⟩ : ∃ q,j = q + 1:=⟨j - 1,by omega⟩
  simp only [F15_lrlrr]
  repeat (first | (with_reducible apply qzV; simp (disch:=omega) only [coreA,Int.reduceBEq,bzY2,hb] <;> with_reducible rfl) | (with_reducible first | apply qzT | apply qzF | apply qzG | apply qzH) | ((with_reducible first | apply qzB | apply qzC | apply qzD); simp (disch:=omega) only [coreA,Int.reduceBEq,bzY2,hb] <;> with_reducible rfl))
  exact hk _ _ _ _ _ _ (by rw [List.take_of_length_le (by omega)] at S; exact S)
 | succ n ih =>
  intro i j h x5 hi hj S hk
  obtain ⟨j,rfl⟩ : ∃ q,j = q + 1:=⟨j - 1,by omega⟩
  obtain ⟨z,ez⟩ : ∃ x,by_[i]? = some x:=⟨_,List.getElem?_eq_getElem (by omega)⟩
  obtain ⟨b,o,hp,hc0⟩:=B.at_ ez
  have e : (i : Int) + 1 = ((i + 1 : Nat) : Int):=by omega
  have et:=take_map1 (row:=row) ez
  have hpl:=pick_len row by_ i
  simp only [F15_lrlrr,F15_rlrllrllrlrr,G15_6]
  repeat (first | (with_reducible apply qzV; simp (disch:=omega) only [coreA,Int.reduceBEq,bzY2,hb,bdC0] <;> with_reducible rfl) | (with_reducible first | apply qzT | apply qzF | apply qzG | apply qzH) | ((with_reducible first | apply qzB | apply qzC | apply qzD); simp (disch:=omega) only [coreA,Int.reduceBEq,bzY2,hb,bdC0] <;> with_reducible rfl))
  refine Tl.alloc' S ze37 (by rfl) fun b8 h1 S1 g1=>?_
  refine Tl.store' S1 0 rfl sz37 rfl rfl (by decide) fun h2 S2 k2=>?_
  have S2 : Stt Try.prog h0.n h0 h2 [(b8,.cells (crow cellZ) 37 true)] [(x5,3,(pickL row (by_.take i)).map crow)]:=S2
  have hc:=S2.grow.cell hc0
  by_cases q1 : 0 ≤ z
  ·by_cases q2 : z < row.length
   ·obtain ⟨m,rfl⟩ : ∃ m : Nat,z = m:=⟨z.toNat,by omega⟩
    obtain ⟨x,ex⟩ : ∃ x,row[m]? = some x:=⟨_,List.getElem?_eq_getElem (by omega)⟩
    obtain ⟨b',o',hp',hrow'⟩:=(R.grow S2.grow).at_ ex
    rw [atC_in q1 (by simpa using ex)] at et
    repeat (first | (with_reducible apply qzV; simp (disch:=omega) only [coreA,Int.reduceBEq,bzY2,hp,hc,hv,hp',hrow'] <;> with_reducible rfl) | (with_reducible first | apply qzT | apply qzF | apply qzG | apply qzH) | ((with_reducible first | apply qzB | apply qzC | apply qzD); simp (disch:=omega) only [coreA,Int.reduceBEq,bzY2,hp,hc,hv,hp',hrow'] <;> with_reducible rfl))
    refine Tl.store' S2 0 rfl sz37 rfl rfl (by decide) fun h3 S3 k3=>?_
    have S3 : Stt Try.prog h0.n h0 h3 [(b8,.cells (crow x) 37 true)] [(x5,3,(pickL row (by_.take i)).map crow)]:=S3
    have r3 : h3.row b8 0 3 = some (crow x):=S3.row 0 rfl rfl
    repeat (first | (with_reducible apply qzV; simp (disch:=omega) only [coreA,Int.reduceBEq,bzY2,r3] <;> with_reducible rfl) | (with_reducible first | apply qzT | apply qzF | apply qzG | apply qzH) | ((with_reducible first | apply qzB | apply qzC | apply qzD); simp (disch:=omega) only [coreA,Int.reduceBEq,bzY2,r3] <;> with_reducible rfl))
    refine Tl.push S3 0 rfl appC (bsC1 x _) rfl rfl (by omega) fun v' h4 S4=>?_
    repeat (first | (with_reducible apply qzV; simp (disch:=omega) only [coreA,Int.reduceBEq,bzY2] <;> with_reducible rfl) | (with_reducible first | apply qzT | apply qzF | apply qzG | apply qzH) | ((with_reducible first | apply qzB | apply qzC | apply qzD); simp (disch:=omega) only [coreA,Int.reduceBEq,bzY2] <;> with_reducible rfl))
    rw [e]
    exact ih (by omega) (by omega) (by rw [← et]; exact S4.drop) hk
   ·rw [atC_out (by omega)] at et
    have r3 : h2.row b8 0 3 = some (crow cellZ):=S2.row 0 rfl rfl
    repeat (first | (with_reducible apply qzV; simp (disch:=omega) only [coreA,Int.reduceBEq,bzY2,hp,hc,hv,r3] <;> with_reducible rfl) | (with_reducible first | apply qzT | apply qzF | apply qzG | apply qzH) | ((with_reducible first | apply qzB | apply qzC | apply qzD); simp (disch:=omega) only [coreA,Int.reduceBEq,bzY2,hp,hc,hv,r3] <;> with_reducible rfl))
    refine Tl.push S2 0 rfl appC (bsC1 cellZ _) rfl rfl (by omega) fun v' h4 S4=>?_
    repeat (first | (with_reducible apply qzV; simp (disch:=omega) only [coreA,Int.reduceBEq,bzY2] <;> with_reducible rfl) | (with_reducible first | apply qzT | apply qzF | apply qzG | apply qzH) | ((with_reducible first | apply qzB | apply qzC | apply qzD); simp (disch:=omega) only [coreA,Int.reduceBEq,bzY2] <;> with_reducible rfl))
    rw [e]
    exact ih (by omega) (by omega) (by rw [← et]; exact S4.drop) hk
  ·rw [atC_out (by omega)] at et
   have r3 : h2.row b8 0 3 = some (crow cellZ):=S2.row 0 rfl rfl
   repeat (first | (with_reducible apply qzV; simp (disch:=omega) only [coreA,Int.reduceBEq,bzY2,hp,hc,hv,r3] <;> with_reducible rfl) | (with_reducible first | apply qzT | apply qzF | apply qzG | apply qzH) | ((with_reducible first | apply qzB | apply qzC | apply qzD); simp (disch:=omega) only [coreA,Int.reduceBEq,bzY2,hp,hc,hv,r3] <;> with_reducible rfl))
   refine Tl.push S2 0 rfl appC (bsC1 cellZ _) rfl rfl (by omega) fun v' h4 S4=>?_
   repeat (first | (with_reducible apply qzV; simp (disch:=omega) only [coreA,Int.reduceBEq,bzY2] <;> with_reducible rfl) | (with_reducible first | apply qzT | apply qzF | apply qzG | apply qzH) | ((with_reducible first | apply qzB | apply qzC | apply qzD); simp (disch:=omega) only [coreA,Int.reduceBEq,bzY2] <;> with_reducible rfl))
   rw [e]
   exact ih (by omega) (by omega) (by rw [← et]; exact S4.drop) hk
theorem f15c {k : Nat} {h : AH} {rv bv : Value} {row : List CellD} {by_ : List Int} (R : Cells h rv row) (B : IntsZ h bv by_) (hl : by_.length ≤ 2 ^ 20) (hk : by_.length < k) :
  Tl (eInv env (k + 1) (.func 15) #[] #[rv,bv] h) fun r=>Stt Try.prog h.n h r.2 [] [(r.1,3,(pickL row by_).map crow)]:=by
 rw [F15_call]
 unfold F15
 exact f15_loop R B hl by_.length (i:=0) (by omega) (by omega) ((Stt.init h).nil 3) fun h' v' y0 y1 y2 y3 S=>⟨_,rfl,S⟩
/-! ### Rows in order -/
/-- The document's comparison of rows. -/
def rcmp : List CellD→List CellD→Int
 | [],[]=>0
 | [],_ :: _=>-1
 | _ :: _,[]=>1
 | a :: l,b :: m=>if a.cmp b = 0 then rcmp l m else a.cmp b
theorem f13_loop {β : Type} {k : Nat} {Q : β→Prop} {h0 : AH} {va vb : Value} {ra rb : List CellD} (A : Cells h0 va ra) (B : Cells h0 vb rb) (hl : ra.length ≤ 2 ^ 40) (hl2 : rb.length ≤ 2 ^ 40) {ke0 : Value→Value→Value→Value→AH→Option β} {kr : Value→AH→Option β} (n : Nat) :
  ∀ {i j : Nat} {h : AH},i + n = min ra.length rb.length→n < j→Grow h0 h→rcmp ra rb = rcmp (ra.drop i) (rb.drop i) →
   (∀ h' y1 y2,Grow h0 h'→rcmp ra rb = (if ra.length < rb.length then -1 else if rb.length < ra.length then 1 else 0)→Tl (ke0 va vb y1 y2 h') Q) →
   (∀ h',Grow h0 h'→Tl (kr (.int .i64 (rcmp ra rb)) h') Q) →
   Tl (F13_lrlr (eInv env (k + 2)) (k + 2) j va vb (.int .i64 i) h ke0 kr) Q:=by
 have hv : ∀ h',pLen Try.prog #[34] va h' = some (.int .i64 ra.length):=fun h'=>A.len
 have hv2 : ∀ h',pLen Try.prog #[34] vb h' = some (.int .i64 rb.length):=fun h'=>B.len
 induction n with
 | zero =>
  intro i j h hi hj g hr hk hkr
  obtain ⟨j,rfl⟩ : ∃ q,j = q + 1:=⟨j - 1,by omega⟩
  have key : rcmp ra rb = (if ra.length < rb.length then -1 else if rb.length < ra.length then 1 else 0):=by
   rw [hr]
   by_cases q1 : ra.length < rb.length
   ·rw [if_pos q1,List.drop_eq_nil_of_le (by omega : ra.length ≤ i)]
    obtain ⟨x,ex⟩ : ∃ x,rb[i]? = some x:=⟨_,List.getElem?_eq_getElem (by omega)⟩
    rw [drop_at ex]; rfl
   ·by_cases q2 : rb.length < ra.length
    ·rw [if_neg q1,if_pos q2,List.drop_eq_nil_of_le (by omega : rb.length ≤ i)]
     obtain ⟨x,ex⟩ : ∃ x,ra[i]? = some x:=⟨_,List.getElem?_eq_getElem (by omega)⟩
     rw [drop_at ex]; rfl
    ·rw [if_neg q1,if_neg q2,List.drop_eq_nil_of_le (by omega : rb.length ≤ i),List.drop_eq_nil_of_le (by omega : ra.length ≤ i)]; rfl
  simp only [F13_lrlr,G13_2]
  by_cases q1 : i < ra.length
  ·repeat (first | (with_reducible apply qzV; simp (disch:=omega) only [coreA,Int.reduceBEq,bzY2,hv,hv2] <;> with_reducible rfl) | (with_reducible first | apply qzT | apply qzF | apply qzG | apply qzH) | ((with_reducible first | apply qzB | apply qzC | apply qzD); simp (disch:=omega) only [coreA,Int.reduceBEq,bzY2,hv,hv2] <;> with_reducible rfl))
   exact hk _ _ _ g key
  ·repeat (first | (with_reducible apply qzV; simp (disch:=omega) only [coreA,Int.reduceBEq,bzY2,hv,hv2] <;> with_reducible rfl) | (with_reducible first | apply qzT | apply qzF | apply qzG | apply qzH) | ((with_reducible first | apply qzB | apply qzC | apply qzD); simp (disch:=omega) only [coreA,Int.reduceBEq,bzY2,hv,hv2] <;> with_reducible rfl))
   exact hk _ _ _ g key
 | succ n ih =>
  intro i j h hi hj g hr hk hkr
  obtain ⟨j,rfl⟩ : ∃ q,j = q + 1:=⟨j - 1,by omega⟩
  obtain ⟨x,ex⟩ : ∃ x,ra[i]? = some x:=⟨_,List.getElem?_eq_getElem (by omega)⟩
  obtain ⟨y,ey⟩ : ∃ y,rb[i]? = some y:=⟨_,List.getElem?_eq_getElem (by omega)⟩
  obtain ⟨b,o,hp,hrow⟩:=(A.grow g).at_ ex
  obtain ⟨b',o',hp',hrow'⟩:=(B.grow g).at_ ey
  have e : (i : Int) + 1 = ((i + 1 : Nat) : Int):=by omega
  rw [drop_at ex,drop_at ey] at hr
  simp only [F13_lrlr,G13_2]
  repeat (first | (with_reducible apply qzV; simp (disch:=omega) only [coreA,Int.reduceBEq,bzY2,hv,hv2,hp,hrow,hp',hrow'] <;> with_reducible rfl) | (with_reducible first | apply qzT | apply qzF | apply qzG | apply qzH) | ((with_reducible first | apply qzB | apply qzC | apply qzD); simp (disch:=omega) only [coreA,Int.reduceBEq,bzY2,hv,hv2,hp,hrow,hp',hrow'] <;> with_reducible rfl))
  refine Tl.bind (f14c (k:=k) x y h) ?_
  rintro ⟨r,h1⟩ ⟨er,g1⟩
  simp only at er g1
  subst er
  by_cases q : x.cmp y = 0
  ·have qq : (x.cmp y != 0) = false:=bne_f q
   simp only [rcmp,q,if_true] at hr
   repeat (first | (with_reducible apply qzV; simp (disch:=omega) only [coreA,Int.reduceBEq,bzY2,qq] <;> with_reducible rfl) | (with_reducible first | apply qzT | apply qzF | apply qzG | apply qzH) | ((with_reducible first | apply qzB | apply qzC | apply qzD); simp (disch:=omega) only [coreA,Int.reduceBEq,bzY2,qq] <;> with_reducible rfl))
   rw [e]
   exact ih (by omega) (by omega) (g.trans g1) hr hk hkr
  ·have qq : (x.cmp y != 0) = true:=bne_t q
   simp only [rcmp,q,if_false] at hr
   repeat (first | (with_reducible apply qzV; simp (disch:=omega) only [coreA,Int.reduceBEq,bzY2,qq] <;> with_reducible rfl) | (with_reducible first | apply qzT | apply qzF | apply qzG | apply qzH) | ((with_reducible first | apply qzB | apply qzC | apply qzD); simp (disch:=omega) only [coreA,Int.reduceBEq,bzY2,qq] <;> with_reducible rfl))
   rw [← hr]
   exact hkr _ (g.trans g1)
theorem f13c {k : Nat} {h : AH} {va vb : Value} {ra rb : List CellD} (A : Cells h va ra) (B : Cells h vb rb) (hl : ra.length ≤ 2 ^ 40) (hl2 : rb.length ≤ 2 ^ 40) (hk : ra.length < k) :
  Tl (eInv env (k + 3) (.func 13) #[] #[va,vb] h) fun r=>r.1 = .int .i64 (rcmp ra rb) ∧ Grow h r.2:=by
 rw [F13_call]
 unfold F13
 have hv : ∀ h',pLen Try.prog #[34] va h' = some (.int .i64 ra.length):=fun h'=>A.len
 have hv2 : ∀ h',pLen Try.prog #[34] vb h' = some (.int .i64 rb.length):=fun h'=>B.len
 have hs : ∀ x y h,eInv env (k + 2) (.func 35) #[] #[.bool x,.bool y] h = some (.int .i64 (if x then -1 else if y then 1 else 0),h):=fun x y h=>f35e x y h
 refine f13_loop A B hl hl2 (min ra.length rb.length) (i:=0) (by omega) (by omega) (Grow.refl _) rfl (fun h' y1 y2 g hr=>?_) fun h' g=>⟨_,rfl,rfl,g⟩
 rw [hr]
 by_cases q1 : ra.length < rb.length
 ·repeat (first | (with_reducible apply qzV; simp (disch:=omega) only [coreA,Int.reduceBEq,bzY2,hv,hv2,hs] <;> with_reducible rfl) | (with_reducible first | apply qzT | apply qzF | apply qzG | apply qzH) | ((with_reducible first | apply qzB | apply qzC | apply qzD); simp (disch:=omega) only [coreA,Int.reduceBEq,bzY2,hv,hv2,hs] <;> with_reducible rfl))
  refine ⟨_,rfl,?_,g⟩
  rw [if_pos q1]; rfl
 ·by_cases q2 : rb.length < ra.length
  ·repeat (first | (with_reducible apply qzV; simp (disch:=omega) only [coreA,Int.reduceBEq,bzY2,hv,hv2,hs] <;> with_reducible rfl) | (with_reducible first | apply qzT | apply qzF | apply qzG | apply qzH) | ((with_reducible first | apply qzB | apply qzC | apply qzD); simp (disch:=omega) only [coreA,Int.reduceBEq,bzY2,hv,hv2,hs] <;> with_reducible rfl))
   refine ⟨_,rfl,?_,g⟩
   rw [if_neg q1,if_pos q2]; rfl
  ·repeat (first | (with_reducible apply qzV; simp (disch:=omega) only [coreA,Int.reduceBEq,bzY2,hv,hv2,hs] <;> with_reducible rfl) | (with_reducible first | apply qzT | apply qzF | apply qzG | apply qzH) | ((with_reducible first | apply qzB | apply qzC | apply qzD); simp (disch:=omega) only [coreA,Int.reduceBEq,bzY2,hv,hv2,hs] <;> with_reducible rfl))
   refine ⟨_,rfl,?_,g⟩
   rw [if_neg q1,if_neg q2]; rfl
end Go.Proofs.Ytgklcfnjahomjaa.Sh
