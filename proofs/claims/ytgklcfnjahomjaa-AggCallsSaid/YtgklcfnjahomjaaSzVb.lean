/- Cells, rows and predicates as they lie in memory; which of them are light. -/
import Derived.Test.YtgklcfnjahomjaaSzVa
set_option linter.unusedVariables false
set_option linter.unusedSimpArgs false
set_option maxRecDepth 100000
namespace Go.Proofs.Ytgklcfnjahomjaa.Sh
open Go Go.RowKit Go.Proofs.Ev
theorem bzVb : type_of% (And.intro @ld3 (And.intro @ld2 (And.intro @ld9 (And.intro @ld24 (And.intro @fa37_0 (And.intro @fa37_1 (And.intro @fa37_2 (@Nat.add_zero)))))))):=And.intro @ld3 (And.intro @ld2 (And.intro @ld9 (And.intro @ld24 (And.intro @fa37_0 (And.intro @fa37_1 (And.intro @fa37_2 (@Nat.add_zero)))))))
/-- A node of a predicate. -/
structure NodeD where
 op : Int
 col : Int
 val : CellD
 parts : List Int
def crow (a : CellD) : List Value:=[.int .i64 a.k,.int .i64 a.i,.string a.s]
def irows (l : List Int) : List (List Value):=l.map fun x=>[.int .i64 x]
def nrow (nd : NodeD) (pv : Value) : List Value:=[.int .i64 nd.op,.int .i64 nd.col,.int .i64 nd.val.k,.int .i64 nd.val.i,.string nd.val.s,pv]
/-- A row of cells. -/
def Cells (h : AH) (v : Value) (l : List CellD) : Prop:=SlZ Try.prog h v 3 (l.map crow)
def IntsZ (h : AH) (v : Value) (l : List Int) : Prop:=SlZ Try.prog h v 1 (irows l)
def NodeR (h : AH) (r : List Value) (nd : NodeD) : Prop:=∃ pv,r = nrow nd pv ∧ IntsZ h pv nd.parts
def All2 {α γ : Type} (R : α→γ→Prop) : List α→List γ→Prop
 | [],[]=>True
 | a :: l,b :: m=>R a b ∧ All2 R l m
 | _,_=>False
theorem All2.len {α γ : Type} {R : α→γ→Prop} : ∀ {l : List α} {m : List γ},All2 R l m→l.length = m.length
 | [],[],_=>rfl
 | a :: l,b :: m,h=>by simp [All2.len h.2]
theorem All2.get {α γ : Type} {R : α→γ→Prop} : ∀ {l : List α} {m : List γ},All2 R l m→∀ {i : Nat} {b : γ},m[i]? = some b→∃ a,l[i]? = some a ∧ R a b
 | [],[],_,i,b,hb=>by simp at hb
 | a :: l,b :: m,h,0,c,hc=>by simp at hc; subst hc; exact ⟨a,rfl,h.1⟩
 | a :: l,b :: m,h,i + 1,c,hc=>All2.get h.2 (i:=i) (by simpa using hc)
theorem All2.mono {α γ : Type} {R R' : α→γ→Prop} (hR : ∀ a b,R a b→R' a b) : ∀ {l : List α} {m : List γ},All2 R l m→All2 R' l m
 | [],[],_=>trivial
 | a :: l,b :: m,h=>⟨hR _ _ h.1,All2.mono hR h.2⟩
/-- A predicate. -/
def Preds (h : AH) (v : Value) (l : List NodeD) : Prop:=∃ rows,SlZ Try.prog h v 6 rows ∧ All2 (NodeR h) rows l
theorem NodeR.grow {h h' : AH} {r : List Value} {nd : NodeD} (S : NodeR h r nd) (g : Grow h h') : NodeR h' r nd:=by
 obtain ⟨pv,e,X⟩:=S
 exact ⟨pv,e,SlZ.grow X g⟩
theorem Preds.grow {h h' : AH} {v : Value} {l : List NodeD} (S : Preds h v l) (g : Grow h h') : Preds h' v l:=by
 obtain ⟨rows,X,A⟩:=S
 exact ⟨rows,X.grow g,A.mono fun _ _ h=>h.grow g⟩
theorem irows_len (l : List Int) : (irows l).length = l.length:=List.length_map ..
theorem IntsZ.grow {h h' : AH} {v : Value} {l : List Int} (S : IntsZ h v l) (g : Grow h h') : IntsZ h' v l:=SlZ.grow S g
theorem IntsZ.len {h h' : AH} {v : Value} {l : List Int} (S : IntsZ h v l) : pLen Try.prog #[24] v h' = some (.int .i64 l.length):=by
 have:=SlZ.len S u24 (h':=h')
 rwa [irows_len] at this
theorem IntsZ.at_ {h : AH} {v : Value} {l : List Int} (S : IntsZ h v l) {i : Nat} {x : Int} (hi : l[i]? = some x) :
  ∃ b o,pIndexAddr Try.prog 24 v (.int .i64 i) = some (.pointer (some ⟨b,o,none⟩)) ∧ h.cell b o = some (.int .i64 x):=by
 obtain ⟨b,o,h1,h2⟩:=SlZ.at_ S (k:=.i64) (i:=i) (r:=[.int .i64 x]) (by simp [irows,hi]) u24 sz3
 exact ⟨b,o,h1,by simpa using Ev.cell_of_row (j:=0) h2 (by omega)⟩
theorem Cells.grow {h h' : AH} {v : Value} {l : List CellD} (S : Cells h v l) (g : Grow h h') : Cells h' v l:=SlZ.grow S g
theorem Cells.len {h h' : AH} {v : Value} {l : List CellD} (S : Cells h v l) : pLen Try.prog #[34] v h' = some (.int .i64 l.length):=by
 have:=SlZ.len S u34 (h':=h')
 rwa [List.length_map] at this
theorem Cells.at_ {h : AH} {v : Value} {l : List CellD} (S : Cells h v l) {i : Nat} {x : CellD} (hi : l[i]? = some x) :
  ∃ b o,pIndexAddr Try.prog 34 v (.int .i64 i) = some (.pointer (some ⟨b,o,none⟩)) ∧ h.row b o 3 = some (crow x) :=
 SlZ.at_ S (k:=.i64) (by simp [hi]) u34 sz37
theorem drop_at {α : Type} {l : List α} {i : Nat} {x : α} (h : l[i]? = some x) : l.drop i = x :: l.drop (i + 1):=by
 obtain ⟨hi,rfl⟩:=List.getElem?_eq_some_iff.1 h
 exact List.drop_eq_getElem_cons hi
/-! ### Light ones -/
def lightR (l : List CellD) : Bool:=(l.all fun c=>decide (c.s.size ≤ 300)) && decide (l.length ≤ 20)
theorem f56_loop {β : Type} {inv : Inv} {k : Nat} {Q : β→Prop} {h : AH} {v : Value} {l : List CellD} (S : Cells h v l) (hl : l.length ≤ 9223372036854775807) {ke0 : Value→Value→Value→AH→Option β} {kr : Value→AH→Option β} (n : Nat) :
  ∀ {i j : Nat},i + n = l.length→n < j→(((l.drop i).all fun c=>decide (c.s.size ≤ 300)) = true→∀ y1 y2,Tl (ke0 v y1 y2 h) Q)→(((l.drop i).all fun c=>decide (c.s.size ≤ 300)) = false→Tl (kr (.bool false) h) Q) →
   Tl (F56_lrlr inv k j v (.int .i64 i) h ke0 kr) Q:=by
 induction n with
 | zero =>
  intro i j hi hj hk hr
  obtain ⟨j,rfl⟩ : ∃ q,j = q + 1:=⟨j - 1,by omega⟩
  have hv : ∀ h',pLen Try.prog #[34] v h' = some (.int .i64 l.length):=fun h'=>S.len
  simp only [F56_lrlr]
  repeat (first | (with_reducible apply qzV; simp (disch:=omega) only [coreA,Int.reduceBEq,bzVb,hv] <;> with_reducible rfl) | (with_reducible first | apply qzT | apply qzF | apply qzG | apply qzH) | ((with_reducible first | apply qzB | apply qzC | apply qzD); simp (disch:=omega) only [coreA,Int.reduceBEq,bzVb,hv] <;> with_reducible rfl))
  exact hk (by rw [List.drop_eq_nil_of_le (by omega)]; rfl) _ _
 | succ n ih =>
  intro i j hi hj hk hr
  obtain ⟨j,rfl⟩ : ∃ q,j = q + 1:=⟨j - 1,by omega⟩
  have hv : ∀ h',pLen Try.prog #[34] v h' = some (.int .i64 l.length):=fun h'=>S.len
  obtain ⟨x,ex⟩ : ∃ x,l[i]? = some x:=⟨_,List.getElem?_eq_getElem (by omega)⟩
  obtain ⟨b,o,hp,hrow⟩:=S.at_ ex
  have c2 : h.cell b (o + 2) = some (.string x.s):=Ev.cell_of_row (j:=2) hrow (by omega)
  have hs : ∀ h' : AH,pLen Try.prog #[9] (.string x.s) h' = some (.int .i64 x.s.size):=fun h'=>len_string u9
  have e : (i : Int) + 1 = ((i + 1 : Nat) : Int):=by omega
  simp only [F56_lrlr]
  rw [drop_at ex,List.all_cons] at hk hr
  by_cases q2 : x.s.size ≤ 300
  ·rw [decide_eq_true q2,Bool.true_and] at hk hr
   repeat (first | (with_reducible apply qzV; simp (disch:=omega) only [coreA,Int.reduceBEq,bzVb,hv,hp,c2,hs] <;> with_reducible rfl) | (with_reducible first | apply qzT | apply qzF | apply qzG | apply qzH) | ((with_reducible first | apply qzB | apply qzC | apply qzD); simp (disch:=omega) only [coreA,Int.reduceBEq,bzVb,hv,hp,c2,hs] <;> with_reducible rfl))
   rw [e]
   exact ih (by omega) (by omega) hk hr
  ·rw [decide_eq_false q2,Bool.false_and] at hr
   repeat (first | (with_reducible apply qzV; simp (disch:=omega) only [coreA,Int.reduceBEq,bzVb,hv,hp,c2,hs] <;> with_reducible rfl) | (with_reducible first | apply qzT | apply qzF | apply qzG | apply qzH) | ((with_reducible first | apply qzB | apply qzC | apply qzD); simp (disch:=omega) only [coreA,Int.reduceBEq,bzVb,hv,hp,c2,hs] <;> with_reducible rfl))
   exact hr rfl
theorem f56c {k : Nat} {h : AH} {v : Value} {l : List CellD} (S : Cells h v l) (hl : l.length ≤ 9223372036854775807) (hk : l.length < k) : eInv env (k + 1) (.func 56) #[] #[v] h = some (.bool (lightR l),h):=by
 rw [F56_call]
 have T : Tl (F56 (eInv env k) k v h) fun r=>r = (.bool (lightR l),h):=by
  unfold F56
  have hv : ∀ h',pLen Try.prog #[34] v h' = some (.int .i64 l.length):=fun h'=>S.len
  refine f56_loop S hl l.length (i:=0) (by omega) hk (fun q y1 y2=>?_) fun q=>⟨_,rfl,?_⟩
  ·rw [List.drop_zero] at q
   repeat (first | (with_reducible apply qzV; simp (disch:=omega) only [coreA,Int.reduceBEq,bzVb,hv] <;> with_reducible rfl) | (with_reducible first | apply qzT | apply qzF | apply qzG | apply qzH) | ((with_reducible first | apply qzB | apply qzC | apply qzD); simp (disch:=omega) only [coreA,Int.reduceBEq,bzVb,hv] <;> with_reducible rfl))
   refine ⟨_,rfl,?_⟩
   unfold lightR
   rw [q,Bool.true_and]
   congr 2
   simp
   omega
  ·rw [List.drop_zero] at q
   unfold lightR
   rw [q,Bool.false_and]
 obtain ⟨r,h1,h2⟩:=T
 rw [h1,h2]
end Go.Proofs.Ytgklcfnjahomjaa.Sh
