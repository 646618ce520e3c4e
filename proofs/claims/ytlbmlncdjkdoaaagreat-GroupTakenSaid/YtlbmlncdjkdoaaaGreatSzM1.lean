/- What lies ahead of the law, put together. -/
import Derived.Test.YtlbmlncdjkdoaaaGreatSzF
import Derived.Test.YtlbmlncdjkdoaaaGreatSzT
import Derived.Test.YtlbmlncdjkdoaaaGreatOrdC
import Derived.KernelRfl
import Derived.Test.YtlbmlncdjkdoaaaGreatZoneMath
import Derived.Test.YtlbmlncdjkdoaaaGreatOctM
import Derived.Test.YtlbmlncdjkdoaaaGreatEvC
/- What 'value.Compare' comes to: cells are ordered. -/
set_option linter.unusedVariables false
set_option linter.unusedSimpArgs false
set_option maxRecDepth 100000
namespace Go.Proofs.YtlbmlncdjkdoaaaGreat.Sh
open Go Go.RowKit Go.Proofs.Ev Go.Lib
open Tryz (prog)
theorem f198e {k : Nat} (a : Int) (h : AH) : eInv env (k + 1) (.func 198) #[] #[.int .i64 a] h = some (.bool false,h):=by
 rw [F198_call]
 unfold F198
 simp only [bin_neq,bnd_some,bne_self_eq_false]
theorem f207e {k : Nat} (a : Int) (h : AH) : eInv env (k + 1) (.func 207) #[] #[.int .i64 a] h = some (.bool false,h):=by
 rw [F207_call]
 unfold F207
 simp only [bin_neq,bnd_some,bne_self_eq_false]
theorem f172e {k : Nat} (a b : Int) (h : AH) : eInv env (k + 2) (.func 172) #[] #[.int .i64 a,.int .i64 b] h = some (.int .i64 (cmpI a b),h):=by
 rw [F172_call]
 unfold F172
 simp only [f198e,bnd_some,brV_false,bin_lss,bin_gtr,brV_bool]
 unfold cmpI
 by_cases h1 : a < b
 ·simp [h1,goInt]
 ·by_cases h2 : b < a <;> simp [h1,h2,goInt]
theorem f183e {k : Nat} (a b : Int) (h : AH) : eInv env (k + 2) (.func 183) #[] #[.int .i64 a,.int .i64 b] h = some (.int .i64 (cmpI a b),h):=by
 rw [F183_call]
 unfold F183
 simp only [f207e,bnd_some,brV_false,bin_lss,bin_gtr,brV_bool]
 unfold cmpI
 by_cases h1 : a < b
 ·simp [h1,goInt]
 ·by_cases h2 : b < a <;> simp [h1,h2,goInt]
theorem f221e {k : Nat} (a b : ByteArray) (h : AH) : eInv env (k + 1) (.func 221) #[] #[.string a,.string b] h = some (.int .i64 (compareBytes a.data.toList b.data.toList),h):=by
 rw [inv_ext (g:=cmpX) rfl]
 unfold cmpX
 simp [cmp_eq,goInt]
theorem f184e {k : Nat} (a b : ByteArray) (h : AH) : eInv env (k + 3) (.func 184) #[] #[.string a,.string b] h = some (.int .i64 (compareBytes a.data.toList b.data.toList),h):=by
 rw [F184_call]
 unfold F184
 simp only [F208_call]
 unfold F208
 simp only [f221e,bnd_some]
/-- 'cmp.Or' of three. -/
theorem f182e {k : Nat} (a b c : Int) {h : AH} {bl : Nat} {e : TypeId} (hg : h.get bl = some (.cells [.int .i64 a,.int .i64 b,.int .i64 c] e true)) :
  eInv env (k + 5) (.func 182) #[] #[.slice (some ⟨bl,0,none⟩) 3 3] h = some (.int .i64 (orI a (orI b c)),h):=by
 rw [F182_call]
 unfold F182
 simp only [len_slice u24,bnd_some]
 have r0 : h.cell bl 0 = some (.int .i64 a):=by rw [cell_of hg]; rfl
 have r1 : h.cell bl 1 = some (.int .i64 b):=by rw [cell_of hg]; rfl
 have r2 : h.cell bl 2 = some (.int .i64 c):=by rw [cell_of hg]; rfl
 have i0 : pIndexAddr prog 24 (.slice (some ⟨bl,0,none⟩) 3 3) (.int .i64 0) = some (.pointer (some ⟨bl,0,none⟩)):=indexAddr_slice u24 sz3 (by decide) (by decide)
 have i1 : pIndexAddr prog 24 (.slice (some ⟨bl,0,none⟩) 3 3) (.int .i64 1) = some (.pointer (some ⟨bl,1,none⟩)):=indexAddr_slice u24 sz3 (by decide) (by decide)
 have i2 : pIndexAddr prog 24 (.slice (some ⟨bl,0,none⟩) 3 3) (.int .i64 2) = some (.pointer (some ⟨bl,2,none⟩)):=indexAddr_slice u24 sz3 (by decide) (by decide)
 have w1 : IntKind.i64.wrap (0 + 1) = 1:=by decide
 have w2 : IntKind.i64.wrap (1 + 1) = 2:=by decide
 have w3 : IntKind.i64.wrap (2 + 1) = 3:=by decide
 unfold orI
 simp only [F182_lrlrr,goInt,bin_lss,bnd_some,brV_bool,i0,i1,i2,ld3,r0,r1,r2,bin_neq,bin_add,w1,w2,w3]
 have ne : ∀ z : Int,¬z = 0→(z != 0) = true:=fun z hz=>by simpa using hz
 by_cases ha : a = 0
 ·by_cases hb : b = 0
  ·by_cases hc : c = 0
   ·simp [ha,hb,hc]
   ·simp [ha,hb,hc,ne c hc]
  ·simp [ha,hb,ne b hb]
 ·simp [ha,ne a ha]
theorem bs324 (a b c : Int) (h : AH) : pBuildSlice prog 24 3 #[(0,.int .i64 a),(1,.int .i64 b),(2,.int .i64 c)] h = some (.slice (some ⟨h.n,0,none⟩) 3 3,h.alloc (.cells [.int .i64 a,.int .i64 b,.int .i64 c] 3 true)):=by kernel_rfl
end Go.Proofs.YtlbmlncdjkdoaaaGreat.Sh
/- Cells, rows and predicates as they lie in memory; which of them are light. -/
set_option linter.unusedVariables false
set_option linter.unusedSimpArgs false
set_option maxRecDepth 100000
namespace Go.Proofs.YtlbmlncdjkdoaaaGreat.Sh
open Go Go.RowKit Go.Proofs.Ev
open Tryz (prog)
def bzVb:=PLift.up (ai @ld3 (ai @ld2 (ai @ld9 (ai @ld24 (ai @fa39_0 (ai @fa39_1 (ai @fa39_2 (@Nat.add_zero))))))))
/-- A node of a predicate. -/
structure NodeD where
 op : Int
 col : Int
 val : CellD
 parts : List Int
def crow (a : CellD) : List Value:=[.int .i64 a.k,.int .i64 a.i,.string a.s]
def irows (l : List Int) : List (List Value):=l.map fun x=>[.int .i64 x]
def nrow (nd : NodeD) (pv : Value) : List Value:=[.int .i64 nd.op,.int .i64 nd.col,.int .i64 nd.val.k,.int .i64 nd.val.i,.string nd.val.s,pv]
/-- A row of cells. -/
def Cells (h : AH) (v : Value) (l : List CellD) : Prop:=SlZ prog h v 3 (l.map crow)
def IntsZ (h : AH) (v : Value) (l : List Int) : Prop:=SlZ prog h v 1 (irows l)
def NodeR (h : AH) (r : List Value) (nd : NodeD) : Prop:=∃ pv,r = nrow nd pv ∧ IntsZ h pv nd.parts
def All2 {α γ : Type} (R : α→γ→Prop) : List α→List γ→Prop
 | [],[]=>True
 | a :: l,b :: m=>R a b ∧ All2 R l m
 | _,_=>False
theorem All2.len {α γ : Type} {R : α→γ→Prop} : ∀ {l : List α} {m : List γ},All2 R l m→l.length = m.length
 | [],[],_=>rfl
 | a :: l,b :: m,h=>by simp [All2.len h.2]
theorem All2.get {α γ : Type} {R : α→γ→Prop} : ∀ {l : List α} {m : List γ},All2 R l m→∀ {i : Nat} {b : γ},m[i]? = some b→∃ a,l[i]? = some a ∧ R a b
 | [],[],_,i,b,hb=>by simp at hb
 | a :: l,b :: m,h,0,c,hc=>by simp at hc; subst hc; exact ⟨a,rfl,h.1⟩
 | a :: l,b :: m,h,i + 1,c,hc=>All2.get h.2 (i:=i) (by simpa using hc)
theorem All2.mono {α γ : Type} {R R' : α→γ→Prop} (hR : ∀ a b,R a b→R' a b) : ∀ {l : List α} {m : List γ},All2 R l m→All2 R' l m
 | [],[],_=>trivial
 | a :: l,b :: m,h=>⟨hR _ _ h.1,All2.mono hR h.2⟩
/-- A predicate. -/
def Preds (h : AH) (v : Value) (l : List NodeD) : Prop:=∃ rows,SlZ prog h v 6 rows ∧ All2 (NodeR h) rows l
theorem NodeR.grow {h h' : AH} {r : List Value} {nd : NodeD} (S : NodeR h r nd) (g : Grow h h') : NodeR h' r nd:=by
 obtain ⟨pv,e,X⟩:=S
 exact ⟨pv,e,SlZ.grow X g⟩
theorem Preds.grow {h h' : AH} {v : Value} {l : List NodeD} (S : Preds h v l) (g : Grow h h') : Preds h' v l:=by
 obtain ⟨rows,X,A⟩:=S
 exact ⟨rows,X.grow g,A.mono fun _ _ h=>h.grow g⟩
theorem irows_len (l : List Int) : (irows l).length = l.length:=List.length_map ..
theorem IntsZ.grow {h h' : AH} {v : Value} {l : List Int} (S : IntsZ h v l) (g : Grow h h') : IntsZ h' v l:=SlZ.grow S g
theorem IntsZ.len {h h' : AH} {v : Value} {l : List Int} (S : IntsZ h v l) : pLen prog #[24] v h' = some (.int .i64 l.length):=by
 have:=SlZ.len S u24 (h':=h')
 rwa [irows_len] at this
theorem IntsZ.at_ {h : AH} {v : Value} {l : List Int} (S : IntsZ h v l) {i : Nat} {x : Int} (hi : l[i]? = some x) :
  ∃ b o,pIndexAddr prog 24 v (.int .i64 i) = some (.pointer (some ⟨b,o,none⟩)) ∧ h.cell b o = some (.int .i64 x):=by
 obtain ⟨b,o,h1,h2⟩:=SlZ.at_ S (k:=.i64) (i:=i) (r:=[.int .i64 x]) (by simp [irows,hi]) u24 sz3
 exact ⟨b,o,h1,by simpa using Ev.cell_of_row (j:=0) h2 (by omega)⟩
theorem Cells.grow {h h' : AH} {v : Value} {l : List CellD} (S : Cells h v l) (g : Grow h h') : Cells h' v l:=SlZ.grow S g
theorem Cells.len {h h' : AH} {v : Value} {l : List CellD} (S : Cells h v l) : pLen prog #[34] v h' = some (.int .i64 l.length):=by
 have:=SlZ.len S u34 (h':=h')
 rwa [List.length_map] at this
theorem Cells.at_ {h : AH} {v : Value} {l : List CellD} (S : Cells h v l) {i : Nat} {x : CellD} (hi : l[i]? = some x) :
  ∃ b o,pIndexAddr prog 34 v (.int .i64 i) = some (.pointer (some ⟨b,o,none⟩)) ∧ h.row b o 3 = some (crow x) :=
 SlZ.at_ S (k:=.i64) (by simp [hi]) u34 sz39
theorem drop_at {α : Type} {l : List α} {i : Nat} {x : α} (h : l[i]? = some x) : l.drop i = x :: l.drop (i + 1):=by
 obtain ⟨hi,rfl⟩:=List.getElem?_eq_some_iff.1 h
 exact List.drop_eq_getElem_cons hi
/-! ### Light ones -/
def lightR (l : List CellD) : Bool:=(l.all fun c=>decide (c.s.size ≤ 300)) && decide (l.length ≤ 20)
theorem f47_loop {β : Type} {inv : Inv} {k : Nat} {Q : β→Prop} {h : AH} {v : Value} {l : List CellD} (S : Cells h v l) (hl : l.length ≤ 9223372036854775807) {ke0 : Value→Value→Value→AH→Option β} {kr : Value→AH→Option β} (n : Nat) :
  ∀ {i j : Nat},i + n = l.length→n < j→(((l.drop i).all fun c=>decide (c.s.size ≤ 300)) = true→∀ y1 y2,Tl (ke0 v y1 y2 h) Q)→(((l.drop i).all fun c=>decide (c.s.size ≤ 300)) = false→Tl (kr (.bool false) h) Q) →
   Tl (F47_lrlr inv k j v (.int .i64 i) h ke0 kr) Q:=by
 induction n with
 | zero =>
  intro i j hi hj hk hr
  obtain ⟨j,rfl⟩ : ∃ q,j = q + 1:=⟨j - 1,by omega⟩
  have hv : ∀ h',pLen prog #[34] v h' = some (.int .i64 l.length):=fun h'=>S.len
  simp only [F47_lrlr]
  with_reducible repeat (first | (apply qzV; simp (disch:=omega) only [zA,bzVb.1,hv] <;> rfl) | apply qzT | apply qzF | (apply qzB; simp (disch:=omega) only [zA,bzVb.1,hv] <;> rfl))
  exact hk (by rw [List.drop_eq_nil_of_le (by omega)]; rfl) _ _
 | succ n ih =>
  intro i j hi hj hk hr
  obtain ⟨j,rfl⟩ : ∃ q,j = q + 1:=⟨j - 1,by omega⟩
  have hv : ∀ h',pLen prog #[34] v h' = some (.int .i64 l.length):=fun h'=>S.len
  obtain ⟨x,ex⟩ : ∃ x,l[i]? = some x:=⟨_,List.getElem?_eq_getElem (by omega)⟩
  obtain ⟨b,o,hp,hrow⟩:=S.at_ ex
  have c2 : h.cell b (o + 2) = some (.string x.s):=Ev.cell_of_row (j:=2) hrow (by omega)
  have hs : ∀ h' : AH,pLen prog #[9] (.string x.s) h' = some (.int .i64 x.s.size):=fun h'=>len_string u9
  have e : (i : Int) + 1 = ((i + 1 : Nat) : Int):=by omega
  simp only [F47_lrlr]
  rw [drop_at ex,List.all_cons] at hk hr
  by_cases q2 : x.s.size ≤ 300
  ·rw [decide_eq_true q2,Bool.true_and] at hk hr
   with_reducible repeat (first | (apply qzV; simp (disch:=omega) only [zA,bzVb.1,hv,hp,c2,hs] <;> rfl) | apply qzT | apply qzF | (apply qzB; simp (disch:=omega) only [zA,bzVb.1,hv,hp,c2,hs] <;> rfl))
   rw [e]
   exact ih (by omega) (by omega) hk hr
  ·rw [decide_eq_false q2,Bool.false_and] at hr
   with_reducible repeat (first | (apply qzV; simp (disch:=omega) only [zA,bzVb.1,hv,hp,c2,hs] <;> rfl) | apply qzT | apply qzF | (apply qzB; simp (disch:=omega) only [zA,bzVb.1,hv,hp,c2,hs] <;> rfl))
   exact hr rfl
theorem f47c {k : Nat} {h : AH} {v : Value} {l : List CellD} (S : Cells h v l) (hl : l.length ≤ 9223372036854775807) (hk : l.length < k) : eInv env (k + 1) (.func 47) #[] #[v] h = some (.bool (lightR l),h):=by
 rw [F47_call]
 have T : Tl (F47 (eInv env k) k v h) fun r=>r = (.bool (lightR l),h):=by
  unfold F47
  have hv : ∀ h',pLen prog #[34] v h' = some (.int .i64 l.length):=fun h'=>S.len
  refine f47_loop S hl l.length (i:=0) (by omega) hk (fun q y1 y2=>?_) fun q=>⟨_,rfl,?_⟩
  ·rw [List.drop_zero] at q
   with_reducible repeat (first | (apply qzV; simp (disch:=omega) only [zA,bzVb.1,hv] <;> rfl) | apply qzT | apply qzF | (apply qzB; simp (disch:=omega) only [zA,bzVb.1,hv] <;> rfl))
   refine ⟨_,rfl,?_⟩
   unfold lightR
   rw [q,Bool.true_and]
   congr 2
   simp
   omega
  ·rw [List.drop_zero] at q
   unfold lightR
   rw [q,Bool.false_and]
 obtain ⟨r,h1,h2⟩:=T
 rw [h1,h2]
end Go.Proofs.YtlbmlncdjkdoaaaGreat.Sh
/- Cells held against each other; which cells may be. -/
set_option linter.unusedVariables false
set_option linter.unusedSimpArgs false
set_option maxRecDepth 100000
namespace Go.Proofs.YtlbmlncdjkdoaaaGreat.Sh
open Go Go.RowKit Go.Proofs.Ev
open Tryz (prog)
def bzVf:=PLift.up (ai @ld3 (ai @ld2 (ai @ld9 (ai @ld39 (ai @fa39_0 (ai @fa39_1 (ai @fa39_2 (@Nat.add_zero))))))))
theorem stC : prog.underlying 39 = some (.struct (prog.fieldsOf 39)):=by kernel_rfl
theorem egC : prog.eqGuardType prog.depth 39 = false:=by kernel_rfl
theorem shC : prog.stoodInHeld 39 = false:=by kernel_rfl
theorem fsC : (prog.fieldsOf 39).toList = [{ name := "Kind", type := 3, offset := 0, embedded := false, tag := "", pkgPath := "", byteOffset := 0 }, { name := "Int", type := 2, offset := 1, embedded := false, tag := "", pkgPath := "", byteOffset := 8 }, { name := "Text", type := 9, offset := 2, embedded := false, tag := "", pkgPath := "", byteOffset := 16 }] := by kernel_rfl
theorem ptC_0 (k i : Int) (s : ByteArray) : prun prog (part 3 #[.int .i64 k,.int .i64 i,.string s] 0) = some (.int .i64 k):=by kernel_rfl
theorem ptC_1 (k i : Int) (s : ByteArray) : prun prog (part 2 #[.int .i64 k,.int .i64 i,.string s] 1) = some (.int .i64 i):=by kernel_rfl
theorem ptC_2 (k i : Int) (s : ByteArray) : prun prog (part 9 #[.int .i64 k,.int .i64 i,.string s] 2) = some (.string s):=by kernel_rfl
theorem eqC (d : Nat) (a b : CellD) : prun prog (Op.equalIn (d + 2) 39 a.v b.v) = some (decide (a = b)):=by
 unfold CellD.v
 rw [prun_equal_struct stC shC,fsC]
 simp only [prunFields,ne_eq,String.reduceEq,not_false_eq_true,if_true,ptC_0,ptC_1,ptC_2,Option.bind_some,prun_equal_int u3,prun_equal_int u2,prun_equal_string u9]
 have key : (a = b) ↔ a.k = b.k ∧ a.i = b.i ∧ a.s = b.s:=by
  constructor
  ·rintro rfl; exact ⟨rfl,rfl,rfl⟩
  ·rintro ⟨h1,h2,h3⟩; exact CellD.ext' h1 h2 (by unfold CellD.bytes; rw [h3])
 rw [beqB_dec]
 by_cases h1 : a.k = b.k
 ·by_cases h2 : a.i = b.i
  ·by_cases h3 : a.s = b.s
   ·simp [key,h1,h2,h3]
   ·simp [key,h1,h2,h3]
  ·have : (a.i == b.i) = false:=by simpa using h2
   simp [key,h1,h2,this]
 ·have : (a.k == b.k) = false:=by simpa using h1
  simp [key,h1,this]
theorem eqlC (a b : CellD) {x y : Operand} : pBin prog .eql 39 x y a.v b.v = some (.bool (decide (a = b))):=bin_eql_agg rfl rfl egC (eqC 9998 a b)
theorem neqC (a b : CellD) {x y : Operand} : pBin prog .neq 39 x y a.v b.v = some (.bool (!decide (a = b))):=bin_neq_agg rfl rfl egC (eqC 9998 a b)
def cellZ : CellD:=⟨0,0,.empty⟩
theorem bdC0 : pBuild prog 39 #[] = some (CellD.v cellZ):=by kernel_rfl
theorem size0 {s : ByteArray} : s = .empty ↔ s.size = 0:=by
 constructor
 ·rintro rfl; rfl
 ·intro h
  obtain ⟨a⟩:=s
  have : a = #[]:=Array.eq_empty_of_size_eq_zero h
  rw [this]; rfl
theorem str0 {x y : Operand} {s : ByteArray} : pBin prog .eql 9 x y (.string s) (.string { data:=#[] }) = some (.bool (decide (s.size = 0))):=by
 rw [bin_eql_string]
 congr 2
 exact decide_eq_decide.2 size0
theorem cellZ_iff {c : CellD} : c = cellZ ↔ c.k = 0 ∧ c.i = 0 ∧ c.s.size = 0:=by
 constructor
 ·rintro rfl; exact ⟨rfl,rfl,rfl⟩
 ·rintro ⟨h1,h2,h3⟩
  exact CellD.ext' h1 h2 (by rw [CellD.bytes,size0.2 h3]; rfl)
/-- Which cells may be. -/
def cellOk (c : CellD) : Bool :=
 if c.k = 0 then decide (c.i = 0) && decide (c.s.size = 0) else if c.k = 1 then decide (c.s.size = 0) else if c.k = 2 then decide (c.s.size = 0) && (decide (c.i = 0) || decide (c.i = 1))
 else if c.k = 3 then decide (c.i = 0) && decide (c.s.size ≤ 256) else false
theorem andn1 {x y : Operand} (i : Int) (hi : -9223372036854775808 ≤ i ∧ i ≤ 9223372036854775807) : ∃ z,pBin prog .andNot 2 x y (.int .i64 i) (.int .i64 1) = some (.int .i64 z) ∧ (z = 0 ↔ i = 0 ∨ i = 1):=by
 have h1 : pBin prog .andNot 2 x y (.int .i64 i) (.int .i64 1) = some (.int .i64 (IntKind.i64.wrap (BitVec.ofInt 64 i &&& ~~~BitVec.ofInt 64 1).toNat)):=rfl
 refine ⟨_,h1,?_⟩
 have hlt : (BitVec.ofInt 64 i &&& ~~~BitVec.ofInt 64 1).toNat < 2 ^ 64:=BitVec.isLt _
 have hw : IntKind.i64.wrap ((BitVec.ofInt 64 i &&& ~~~BitVec.ofInt 64 1).toNat : Int) = 0 ↔ (BitVec.ofInt 64 i &&& ~~~BitVec.ofInt 64 1) = 0#64:=by
  rw [← BitVec.toNat_inj]
  have key : ∀ n : Nat,n < 2 ^ 64→(IntKind.i64.wrap (n : Int) = 0 ↔ n = 0):=by
   intro n hn
   unfold IntKind.wrap
   simp [IntKind.signed,IntKind.bits]
   omega
  exact key _ hlt
 rw [hw]
 have hb : (BitVec.ofInt 64 i &&& ~~~BitVec.ofInt 64 1) = 0#64 ↔ BitVec.ofInt 64 i = 0#64 ∨ BitVec.ofInt 64 i = 1#64:=by
  generalize BitVec.ofInt 64 i = x
  constructor
  ·intro h
   have hx : x = x &&& 1#64:=by
    refine BitVec.eq_of_getLsbD_eq fun j hj=>?_
    have:=congrArg (fun v : BitVec 64=>v.getLsbD j) h
    simp only [BitVec.getLsbD_and,BitVec.getLsbD_not,BitVec.getLsbD_zero] at this ⊢
    have e1 : (BitVec.ofInt 64 1) = 1#64:=rfl
    rw [e1] at this
    cases h1 : x.getLsbD j
    ·rfl
    ·rw [h1] at this
     simp [hj] at this
     simp [this]
   have h2 : x.toNat = x.toNat % 2:=by
    have:=congrArg BitVec.toNat hx
    rw [BitVec.toNat_and] at this
    have e : (1#64).toNat = 2 ^ 1 - 1:=rfl
    rw [e,Nat.and_two_pow_sub_one_eq_mod] at this
    simpa using this
   have h3 : x.toNat = 0 ∨ x.toNat = 1:=by omega
   rcases h3 with h3 | h3
   ·left; exact BitVec.eq_of_toNat_eq h3
   ·right; exact BitVec.eq_of_toNat_eq h3
  ·rintro (rfl | rfl) <;> rfl
 rw [hb]
 have e0 : BitVec.ofInt 64 i = 0#64 ↔ i = 0:=by
  rw [← BitVec.toInt_inj,BitVec.toInt_ofInt]
  simp [Int.bmod]
  omega
 have e1 : BitVec.ofInt 64 i = 1#64 ↔ i = 1:=by
  rw [← BitVec.toInt_inj,BitVec.toInt_ofInt]
  have : (1#64).toInt = 1:=rfl
  rw [this]
  simp [Int.bmod]
  omega
 rw [e0,e1]
def cellR (c : CellD) : Prop:=-9223372036854775808 ≤ c.i ∧ c.i ≤ 9223372036854775807
theorem f116c {k : Nat} (c : CellD) (hc : cellR c) (h : AH) : Tl (eInv env (k + 1) (.func 116) #[] #[c.v] h) fun r=>r.1 = .int .i64 (if cellOk c then 0 else 160) ∧ Grow h r.2:=by
 rw [F116_call]
 unfold F116
 refine Tl.box' (Stt.init h) rfl (by rw [sz39]; rfl) fun b1 h1 S1 _=>?_
 have c0:=S1.cell (o:=0) (v:=.int .i64 c.k) 0 rfl rfl
 have c1:=S1.cell (o:=1) (v:=.int .i64 c.i) 0 rfl rfl
 have c2:=S1.cell (o:=2) (v:=.string c.s) 0 rfl rfl
 have r3 : h1.row b1 0 3 = some (crow c):=S1.row 0 rfl rfl
 have hs : ∀ h' : AH,pLen prog #[9] (.string c.s) h' = some (.int .i64 c.s.size):=fun h'=>len_string u9
 unfold F116_rlrr
 unfold cellOk
 by_cases k0 : c.k = 0
 ·rw [if_pos k0]
  have he : ∀ x y,pBin prog .eql 39 x y (.agg (crow c).toArray) cellZ.v = some (.bool (decide (c = cellZ))):=fun x y=>eqlC c cellZ
  have hd : (decide (c = cellZ)) = (decide (c.i = 0) && decide (c.s.size = 0)):=by
   rw [← Bool.decide_and]
   exact decide_eq_decide.2 (cellZ_iff.trans ⟨fun h=>h.2,fun h=>⟨k0,h⟩⟩)
  by_cases i0 : c.i = 0 <;> by_cases s0 : c.s.size = 0 <;> simp only [i0,s0,decide_true,decide_false,Bool.and_true,Bool.true_and,Bool.and_false,Bool.false_and] at hd ⊢
  all_goals
   with_reducible repeat (first | (apply qzV; simp (disch:=omega) only [zA,bzVf.1,c0,r3,bdC0,he,hd] <;> rfl) | apply qzT | apply qzF | apply qzG | ((first | apply qzB | apply qzC); simp (disch:=omega) only [zA,bzVf.1,c0,r3,bdC0,he,hd] <;> rfl))
   exact ⟨_,rfl,rfl,S1.grow⟩
 rw [if_neg k0]
 by_cases k1 : c.k = 1
 ·rw [if_pos k1]
  by_cases s0 : c.s.size = 0 <;> simp only [s0,decide_true,decide_false,Bool.and_true,Bool.true_and,Bool.and_false,Bool.false_and,if_true,if_false,Bool.false_eq_true]
  all_goals
   with_reducible repeat (first | (apply qzV; simp (disch:=omega) only [zA,bzVf.1,c0,c1,c2,str0,s0] <;> rfl) | apply qzT | apply qzF | apply qzG | ((first | apply qzB | apply qzC); simp (disch:=omega) only [zA,bzVf.1,c0,c1,c2,str0,s0] <;> rfl))
   exact ⟨_,rfl,rfl,S1.grow⟩
 rw [if_neg k1]
 by_cases k2 : c.k = 2
 ·rw [if_pos k2]
  obtain ⟨z,hz,hz0⟩:=andn1 (x:=.tmp 23) (y:=.const (.int .i64 1)) c.i hc
  by_cases s0 : c.s.size = 0
  ·by_cases q : c.i = 0 ∨ c.i = 1
   ·have z0:=hz0.2 q
    have e : (decide (c.s.size = 0) && (decide (c.i = 0) || decide (c.i = 1))) = true:=by
     rcases q with q | q <;> simp [s0,q]
    rw [e]
    with_reducible repeat (first | (apply qzV; simp (disch:=omega) only [zA,bzVf.1,c0,c1,c2,str0,s0,hz] <;> rfl) | apply qzT | apply qzF | apply qzG | ((first | apply qzB | apply qzC); simp (disch:=omega) only [zA,bzVf.1,c0,c1,c2,str0,s0,hz] <;> rfl))
    exact ⟨_,rfl,rfl,S1.grow⟩
   ·have z0 : ¬ z = 0:=fun q'=>q (hz0.1 q')
    have e : (decide (c.s.size = 0) && (decide (c.i = 0) || decide (c.i = 1))) = false:=by
     have q1 : ¬ c.i = 0:=fun h=>q (.inl h)
     have q2 : ¬ c.i = 1:=fun h=>q (.inr h)
     simp [q1,q2]
    rw [e]
    with_reducible repeat (first | (apply qzV; simp (disch:=omega) only [zA,bzVf.1,c0,c1,c2,str0,s0,hz] <;> rfl) | apply qzT | apply qzF | apply qzG | ((first | apply qzB | apply qzC); simp (disch:=omega) only [zA,bzVf.1,c0,c1,c2,str0,s0,hz] <;> rfl))
    exact ⟨_,rfl,rfl,S1.grow⟩
  ·simp only [s0,decide_true,decide_false,Bool.and_true,Bool.true_and,Bool.and_false,Bool.false_and,if_true,if_false,Bool.false_eq_true]
   with_reducible repeat (first | (apply qzV; simp (disch:=omega) only [zA,bzVf.1,c0,c1,c2,str0,s0] <;> rfl) | apply qzT | apply qzF | apply qzG | ((first | apply qzB | apply qzC); simp (disch:=omega) only [zA,bzVf.1,c0,c1,c2,str0,s0] <;> rfl))
   exact ⟨_,rfl,rfl,S1.grow⟩
 rw [if_neg k2]
 by_cases k3 : c.k = 3
 ·rw [if_pos k3]
  by_cases i0 : c.i = 0 <;> by_cases s0 : c.s.size ≤ 256 <;> simp only [i0,s0,decide_true,decide_false,Bool.and_true,Bool.true_and,Bool.and_false,Bool.false_and,if_true,if_false,Bool.false_eq_true]
  all_goals
   with_reducible repeat (first | (apply qzV; simp (disch:=omega) only [zA,bzVf.1,c0,c1,c2,hs] <;> rfl) | apply qzT | apply qzF | apply qzG | ((first | apply qzB | apply qzC); simp (disch:=omega) only [zA,bzVf.1,c0,c1,c2,hs] <;> rfl))
   exact ⟨_,rfl,rfl,S1.grow⟩
 rw [if_neg k3]
 simp only [if_false,Bool.false_eq_true]
 with_reducible repeat (first | (apply qzV; simp (disch:=omega) only [zA,bzVf.1,c0,c1,c2] <;> rfl) | apply qzT | apply qzF | apply qzG | ((first | apply qzB | apply qzC); simp (disch:=omega) only [zA,bzVf.1,c0,c1,c2] <;> rfl))
 exact ⟨_,rfl,rfl,S1.grow⟩
end Go.Proofs.YtlbmlncdjkdoaaaGreat.Sh
/- What 'zone.Compare' comes to. -/
set_option linter.unusedVariables false
set_option linter.unusedSimpArgs false
set_option maxRecDepth 100000
namespace Go.Proofs.YtlbmlncdjkdoaaaGreat.Sh
open Go Go.RowKit Go.Proofs.Ev Go.Lib
def bzZa:=PLift.up (ai @ld3 (ai @ld2 (ai @ld9 (ai @fa39_0 (ai @fa39_1 (@fa39_2))))))
/-- 'Compare'. -/
theorem f146c {k : Nat} (a b : CellD) (h : AH) : Tl (eInv env (k + 9) (.func 146) #[] #[a.v,b.v] h) fun r=>r.1 = .int .i64 (a.cmp b) ∧ Grow h r.2:=by
 rw [F146_call]
 unfold F146
 refine Tl.box' (Stt.init h) rfl (by rw [sz39]; rfl) fun b1 h1 S1 _=>?_
 refine Tl.box' S1 rfl (by rw [sz39]; rfl) fun b2 h2 S2 _=>?_
 have a0:=S2.cell (o:=0) (v:=.int .i64 a.k) 1 rfl rfl
 have a1:=S2.cell (o:=1) (v:=.int .i64 a.i) 1 rfl rfl
 have a2:=S2.cell (o:=2) (v:=.string a.s) 1 rfl rfl
 have c0:=S2.cell (o:=0) (v:=.int .i64 b.k) 0 rfl rfl
 have c1:=S2.cell (o:=1) (v:=.int .i64 b.i) 0 rfl rfl
 have c2:=S2.cell (o:=2) (v:=.string b.s) 0 rfl rfl
 with_reducible repeat (first | (apply qzV; simp (disch:=omega) only [zA,bzZa.1,a0,a1,a2,c0,c1,c2,f172e,f183e,f184e,bs324,f182e _ _ _ (AH.get_alloc_new _ _)] <;> rfl) | apply qzT | apply qzF | (apply qzB; simp (disch:=omega) only [zA,bzZa.1,a0,a1,a2,c0,c1,c2,f172e,f183e,f184e,bs324,f182e _ _ _ (AH.get_alloc_new _ _)] <;> rfl))
 simp only [ld3,ld2,ld9,Nat.zero_add,a0,a1,a2,c0,c1,c2,sameO_some,sameV_int,sameV_string,Bool.and_self,Bool.not_true,Bool.or_true,Bool.true_and,Bool.false_or,chkK_t]
 exact ⟨_,rfl,rfl,(S2.grow).trans (Grow.alloc _ _)⟩
end Go.Proofs.YtlbmlncdjkdoaaaGreat.Sh
/- What 'zone.one' and 'zone.Join' come to. -/
set_option linter.unusedVariables false
set_option linter.unusedSimpArgs false
set_option maxRecDepth 100000
namespace Go.Proofs.YtlbmlncdjkdoaaaGreat.Sh
open Go Go.RowKit Go.Proofs.Ev Go.Lib
open Tryz (prog)
def bzZb:=PLift.up (ai @ld3 (ai @ld2 (ai @ld9 (ai @ld39 (ai @ld53 (ai @fa39_0 (ai @fa39_1 (ai @fa39_2 (ai @fa53_0 (ai @fa53_1 (ai @fa53_2 (ai @fa53_3 (@Nat.add_zero)))))))))))))
def zl (z : ZoneD) : List Value:=[.int .i64 z.cnt,.int .i64 z.nul,.int .i64 z.mn.k,.int .i64 z.mn.i,.string z.mn.s,.int .i64 z.mx.k,.int .i64 z.mx.i,.string z.mx.s]
def zv (z : ZoneD) : Value:=.agg (zl z).toArray
def Zr (b : Nat) (z : ZoneD) : Nat × AO:=(b,.cells (zl z) 53 true)
def Cr (b : Nat) (c : CellD) : Nat × AO:=(b,.cells (crow c) 39 true)
theorem aggC (c : CellD) : Value.agg (crow c).toArray = c.v:=rfl
theorem aggZ (z : ZoneD) : Value.agg (zl z).toArray = zv z:=rfl
theorem sameC (c : CellD) : sameV c.v c.v = true:=by simp [CellD.v,sameV,sameList,same0,beqB]
theorem sameZ (z : ZoneD) : sameV (zv z) (zv z) = true:=by simp [zv,zl,sameV,sameList,same0,beqB]
def z0 : ZoneD:=⟨0,0,c0,c0⟩
theorem isC : (szT prog 39).isSome = true:=by rw [sz39]; rfl
theorem isZ : (szT prog 53).isSome = true:=by rw [sz53]; rfl
theorem bdZa : pBuild prog 53 #[(0,.int .i64 1),(1,.int .i64 1)] = some (zv ⟨1,1,c0,c0⟩):=by kernel_rfl
theorem bdZb (c : CellD) : pBuild prog 53 #[(0,.int .i64 1),(2,c.v),(3,c.v)] = some (zv ⟨1,0,c,c⟩):=by kernel_rfl
theorem bdZc (p q : Int) (c d : CellD) : pBuild prog 53 #[(0,.int .i64 p),(1,.int .i64 q),(2,c.v),(3,d.v)] = some (zv ⟨p,q,c,d⟩):=by kernel_rfl
section
variable {n0 : Nat} {h0 h : AH} {L : List (Nat × AO)} {O : List OS}
structure Zat (h : AH) (b : Nat) (z : ZoneD) : Prop where
 all : h.row b 0 8 = some (zl z)
 cnt : h.cell b 0 = some (.int .i64 z.cnt)
 nul : h.cell b 1 = some (.int .i64 z.nul)
 mn : h.row b 2 3 = some (crow z.mn)
 mx : h.row b 5 3 = some (crow z.mx)
 mnk : h.cell b 2 = some (.int .i64 z.mn.k)
 mxk : h.cell b 5 = some (.int .i64 z.mx.k)
theorem z_at {b : Nat} {z : ZoneD} (S : Stt prog n0 h0 h L O) (i : Nat) (hi : L[i]? = some (Zr b z)) : Zat h b z:=by
 have:=S.sta.mem.at_ hi
 exact ⟨(row_of this).trans rfl,(cell_of this).trans rfl,(cell_of this).trans rfl,(row_of this).trans rfl,(row_of this).trans rfl,(cell_of this).trans rfl,(cell_of this).trans rfl⟩
theorem c_at {b : Nat} {c : CellD} (S : Stt prog n0 h0 h L O) (i : Nat) (hi : L[i]? = some (Cr b c)) : h.row b 0 3 = some (crow c) ∧ h.cell b 0 = some (.int .i64 c.k) ∧ h.cell b 1 = some (.int .i64 c.i) ∧ h.cell b 2 = some (.string c.s):=by
 have:=S.sta.mem.at_ hi
 exact ⟨(row_of this).trans rfl,(cell_of this).trans rfl,(cell_of this).trans rfl,(cell_of this).trans rfl⟩
/-- 'one'. -/
theorem f94c {k : Nat} (c : CellD) (h : AH) : Tl (eInv env (k + 1) (.func 94) #[] #[c.v] h) fun r=>r.1 = zv (oneZ c) ∧ Grow h r.2:=by
 rw [F94_call]
 unfold F94
 refine Tl.box' (Stt.init h) rfl isC fun b1 h1 S1 _=>?_
 refine Tl.alloc' S1 ze53 rfl fun b2 h2 S2 _=>?_
 have S2 : Stt prog h.n h h2 [Zr b2 z0,Cr b1 c] []:=S2
 obtain ⟨r1,k1,_,_⟩:=c_at S2 1 rfl
 unfold oneZ
 by_cases e : c.k = 0
 ·rw [if_pos e]
  with_reducible repeat (first | (apply qzV; simp (disch:=omega) only [zA,bzZb.1,k1,bdZa] <;> rfl) | apply qzT | apply qzF | (apply qzB; simp (disch:=omega) only [zA,bzZb.1,k1,bdZa] <;> rfl))
  refine Tl.store' S2 0 rfl sz53 rfl rfl (by decide) fun h3 S3 _=>?_
  have S3 : Stt prog h.n h h3 [Zr b2 ⟨1,1,c0,c0⟩,Cr b1 c] []:=S3
  have q:=(z_at S3 0 rfl).all
  with_reducible repeat (first | (apply qzV; simp (disch:=omega) only [zA,bzZb.1,q,aggZ] <;> rfl) | apply qzT | apply qzF | (apply qzB; simp (disch:=omega) only [zA,bzZb.1,q,aggZ] <;> rfl))
  exact ⟨_,rfl,rfl,S3.grow⟩
 ·rw [if_neg e]
  with_reducible repeat (first | (apply qzV; simp (disch:=omega) only [zA,bzZb.1,k1,r1,aggC,bdZb] <;> rfl) | apply qzT | apply qzF | (apply qzB; simp (disch:=omega) only [zA,bzZb.1,k1,r1,aggC,bdZb] <;> rfl))
  refine Tl.store' S2 0 rfl sz53 rfl rfl (by decide) fun h3 S3 _=>?_
  have S3 : Stt prog h.n h h3 [Zr b2 ⟨1,0,c,c⟩,Cr b1 c] []:=S3
  have q:=(z_at S3 0 rfl).all
  with_reducible repeat (first | (apply qzV; simp (disch:=omega) only [zA,bzZb.1,q,aggZ] <;> rfl) | apply qzT | apply qzF | (apply qzB; simp (disch:=omega) only [zA,bzZb.1,q,aggZ] <;> rfl))
  exact ⟨_,rfl,rfl,S3.grow⟩
end
end Go.Proofs.YtlbmlncdjkdoaaaGreat.Sh
/- What the functions of the octet's package come to, in the state of their caller. -/
set_option linter.unusedVariables false
set_option linter.unusedSimpArgs false
set_option maxRecDepth 100000
namespace Go.Proofs.YtlbmlncdjkdoaaaGreat.Sh
open Go Go.RowKit Go.Proofs.Ev
open Tryz (prog)
def u8v (x : Nat) : Value:=.int .u8 (x : Int)
def ptr (b : Nat) : Value:=.pointer (some ⟨b,0,none⟩)
def Bytes (h : AH) (v : Value) (l : List Nat) : Prop:=Sl1 prog h v u8v l
def u8rows (l : List Nat) : List (List Value):=l.map fun x=>[u8v x]
theorem u8rows_len (l : List Nat) : (u8rows l).length = l.length:=List.length_map ..
theorem one_u8rows (l : List Nat) : (u8rows l).flatten.all oneCell = true:=flat_one u8v (fun _=>rfl) l
theorem u8rows_flat (l : List Nat) : (u8rows l).flatten = l.map u8v:=by
 induction l with
 | nil=>rfl
 | cons x l ih=>simp only [u8rows,List.map_cons,List.flatten_cons] at ih ⊢; rw [ih]; rfl
theorem Bytes.grow {h h' : AH} {v : Value} {l : List Nat} (S : Bytes h v l) (g : Grow h h') : Bytes h' v l:=Sl1.grow S g
theorem Bytes.len {h h' : AH} {v : Value} {l : List Nat} (S : Bytes h v l) : pLen prog #[93] v h' = some (.int .i64 l.length):=Sl1.len S u93
theorem Bytes.at_ {h : AH} {v : Value} {l : List Nat} (S : Bytes h v l) {i x : Nat} (hi : l[i]? = some x) :
  ∃ b o,pIndexAddr prog 93 v (.int .i64 i) = some (.pointer (some ⟨b,o,none⟩)) ∧ ∀ h',Grow h h'→h'.cell b o = some (.int .u8 (x : Int)):=Sl1.at_ S hi u93 sz5
theorem Bytes.v {h : AH} {v : Value} {l : List Nat} (S : Bytes h v l) : v.cells.toList = [v] ∧ v.cells.size = 1 ∧ oneCell v = true ∧ kn v = true:=slV_cells S
theorem nilR {x y : Operand} : pBin prog .eql 154 x y (.pointer none) (.pointer none) = some (.bool true):=by kernel_rfl
theorem ptrR {x y : Operand} {b o : Nat} : pBin prog .eql 154 x y (.pointer (some ⟨b,o,none⟩)) (.pointer none) = some (.bool false):=by kernel_rfl
theorem slB {x y : Operand} {b o n c : Nat} : pBin prog .eql 93 x y (.slice (some ⟨b,o,none⟩) n c) (.slice none 0 0) = some (.bool false):=by kernel_rfl
theorem nslB {x y : Operand} : pBin prog .eql 93 x y (.slice none 0 0) (.slice none 0 0) = some (.bool true):=by kernel_rfl
theorem nilC {b o : Nat} : pNilCheck prog (.pointer (some ⟨b,o,none⟩)) = some (.pointer (some ⟨b,o,none⟩)):=rfl
def bzOc:=PLift.up (ai @ld3 (ai @ld5 (ai @ld121 (ai @ld93 (ai @ld185 (ai @fa185_0 (ai (fun a h=>conv_int (a:=a) (h:=h) u5 u121) (ai (fun a h=>conv_int (a:=a) (h:=h) u121 u5) (ai @nilR (ai @ptrR (ai @slB (ai @nslB (ai @nilC (ai @ex2_0 (@ex2_1)))))))))))))))
/-! ### Numbers of any length, put -/
theorem f86_loop {β : Type} {k : Nat} {Q : β→Prop} {n0 : Nat} {h0 : AH} {L : List (Nat × AO)} {O : List OS} {ke0 : Value→Value→Value→AH→Option β} (n : Nat) :
  ∀ {j x : Nat} {h : AH} {v : Value} {l : List Nat},(pvarN x).length ≤ n→n ≤ j→x < 18446744073709551616→l.length + (pvarN x).length ≤ 2 ^ 30→Stt prog n0 h0 h L ((v,1,u8rows l) :: O) →
   (∀ h' v' (y : Nat) l' b,y < 128→l' ++ [y] = l ++ pvarN x→Stt prog n0 h0 h' L ((v',1,u8rows l') :: O)→Tl (ke0 v' (.int .u64 (y : Int)) b h') Q) →
   Tl (F86_llr (eInv env k) k j v (.int .u64 (x : Int)) h ke0) Q:=by
 induction n with
 | zero =>
  intro j x h v l hn hj hx hl S hk
  have : 1 ≤ (pvarN x).length:=by
   by_cases q : x < 128
   ·rw [pvarN_lt q]; simp
   ·rw [pvarN_ge q]; simp
  omega
 | succ n ih =>
  intro j x h v l hn hj hx hl S hk
  obtain ⟨j,rfl⟩ : ∃ q,j = q + 1:=⟨j - 1,by omega⟩
  simp only [F86_llr]
  by_cases q : x < 128
  ·with_reducible repeat (first | (apply qzV; simp (disch:=omega) only [zA,bzOc.1] <;> rfl) | apply qzT | apply qzF | (apply qzB; simp (disch:=omega) only [zA,bzOc.1] <;> rfl))
   exact hk _ _ x l _ q (by rw [pvarN_lt q]) S
  ·have w8 : IntKind.u8.wrap ((x : Nat) : Int) = ((x % 256 : Nat) : Int):=by rw [wrap_u8]; omega
   have o8:=or_128 (x % 256) (by omega)
   have e1 : x % 256 % 128 = x % 128:=by omega
   rw [e1] at o8
   have sh : ∀ t a b,pBin prog Go.BinOp.shr t a b (.int .u64 (x : Int)) (.int .u64 7) = some (.int .u64 ((x / 128 : Nat) : Int)):=fun t a b=>by
    rw [shr_nn (by decide)]
    have e : (x : Int).fdiv (2 ^ (min (7 : Int).toNat IntKind.u64.bits)) = ((x / 128 : Nat) : Int):=by
     have h2 : min (7 : Int).toNat IntKind.u64.bits = 7:=by decide
     rw [h2,Int.fdiv_eq_ediv_of_nonneg _ (by decide)]
     have : (2 : Int) ^ 7 = 128:=by decide
     rw [this]; omega
    rw [e]
   rw [pvarN_ge q] at hn hl hk
   simp only [List.length_cons] at hn hl
   have or8' : ∀ t a b,pBin prog Go.BinOp.or t a b (.int .u8 ((x % 256 : Nat) : Int)) (.int .u8 128) = some (.int .u8 ((x % 128 + 128 : Nat) : Int)):=fun t a b=>by
    rw [bin_or]; exact congrArg some (congrArg _ o8)
   with_reducible repeat (first | (apply qzV; simp (disch:=omega) only [zA,bzOc.1,w8,or8'] <;> rfl) | apply qzT | apply qzF | (apply qzB; simp (disch:=omega) only [zA,bzOc.1,w8,or8'] <;> rfl))
   refine Tl.push S 0 rfl app93 (bs93 _ _) rfl rfl (by rw [u8rows_len]; omega) fun v' h' S'=>?_
   with_reducible repeat (first | (apply qzV; simp (disch:=omega) only [zA,bzOc.1,sh] <;> rfl) | apply qzT | apply qzF | (apply qzB; simp (disch:=omega) only [zA,bzOc.1,sh] <;> rfl))
   refine ih (l:=l ++ [x % 128 + 128]) (by omega) (by omega) (by omega) (by simp; omega) (by simpa [u8rows,u8v] using S') fun h'' v'' y l'' b hy hl'' S''=>hk h'' v'' y l'' b hy (by rw [hl'']; simp) S''
theorem f86c {k : Nat} {n0 : Nat} {h0 h : AH} {L : List (Nat × AO)} {O : List OS} {v : Value} {l : List Nat} (x : Nat) (hx : x < 18446744073709551616) (hl : l.length ≤ 2 ^ 29) (S : Stt prog n0 h0 h L ((v,1,u8rows l) :: O)) :
  Tl (eInv env (k + 20) (.func 86) #[] #[v,.int .u64 (x : Int)] h) fun r=>Stt prog n0 h0 r.2 L ((r.1,1,u8rows (l ++ pvarN x)) :: O):=by
 rw [F86_call]
 unfold F86
 have h10:=pvarN_le10 hx
 refine f86_loop (k:=k + 19) 10 h10 (by omega) hx (by omega) S fun h' v' y l' b hy he S'=>?_
 have w8 : IntKind.u8.wrap ((y : Nat) : Int) = ((y : Nat) : Int):=by rw [wrap_u8]; omega
 have hle : l'.length + 1 = l.length + (pvarN x).length:=by
  have:=congrArg List.length he
  simpa using this
 with_reducible repeat (first | (apply qzV; simp (disch:=omega) only [zA,bzOc.1,w8] <;> rfl) | apply qzT | apply qzF | (apply qzB; simp (disch:=omega) only [zA,bzOc.1,w8] <;> rfl))
 refine Tl.push S' 0 rfl app93 (bs93 _ _) rfl rfl (by rw [u8rows_len]; omega) fun v'' h'' S''=>?_
 with_reducible repeat (first | (apply qzV; simp (disch:=omega) only [zA,bzOc.1] <;> rfl) | apply qzT | apply qzF | (apply qzB; simp (disch:=omega) only [zA,bzOc.1] <;> rfl))
 refine ⟨_,rfl,?_⟩
 rw [← he]
 simpa [u8rows,u8v] using S''
/-! ### A reader -/
def Rb (br : Nat) (rv : Value) : Nat × AO:=(br,.cells [rv] 185 true)
/-- What a reader (the block at place i) has left, by its slice. -/
def RV (L : List (Nat × AO)) (i : Nat) (rv : Value) (rest : List Nat) : Prop :=
 rv = .slice none 0 0 ∧ rest = [] ∨ ∃ (j bb o : Nat) (cs : List Value) (e : TypeId),j ≠ i ∧ L[j]? = some (bb,.cells cs e true) ∧ szT prog e = some 1 ∧ rv = .slice (some ⟨bb,o,none⟩) rest.length rest.length ∧
  (rest ≠ []→o + rest.length ≤ cs.length ∧ (cs.drop o).take rest.length = rest.map u8v)
theorem RV.set {L : List (Nat × AO)} {i : Nat} {rv : Value} {rest : List Nat} (R : RV L i rv rest) (p : Nat × AO) : RV (L.set i p) i rv rest:=by
 rcases R with R | ⟨j,bb,o,cs,e,h1,h2,h3⟩
 ·exact .inl R
 ·exact .inr ⟨j,bb,o,cs,e,h1,by rw [List.getElem?_set_ne (Ne.symm h1)]; exact h2,h3⟩
theorem RV.cons {L : List (Nat × AO)} {i : Nat} {rv : Value} {rest : List Nat} (R : RV L i rv rest) (p : Nat × AO) : RV (p :: L) (i + 1) rv rest:=by
 rcases R with R | ⟨j,bb,o,cs,e,h1,h2,h3⟩
 ·exact .inl R
 ·exact .inr ⟨j + 1,bb,o,cs,e,by omega,by simpa using h2,h3⟩
theorem u8v_wide (l : List Nat) : ∀ r ∈ l.map (fun x=>[u8v x]),r.length = 1:=fun r hr=>by
 obtain ⟨x,_,rfl⟩:=List.mem_map.1 hr
 rfl
theorem flat_u8 (l : List Nat) : (l.map fun x=>[u8v x]).flatten = l.map u8v:=u8rows_flat l
section
variable {n0 : Nat} {h0 h : AH} {L : List (Nat × AO)} {O : List OS} {i br : Nat} {rv : Value} {rest : List Nat}
theorem RV.lie {bb o : Nat} {cs : List Value} {e : TypeId} (hg : h.get bb = some (.cells cs e true)) (hc : rest ≠ []→o + rest.length ≤ cs.length ∧ (cs.drop o).take rest.length = rest.map u8v) : Lie prog h bb o 1 true (rest.map fun x=>[u8v x]):=by
 refine ⟨⟨cs,e,hg,fun hne=>?_⟩,u8v_wide rest⟩
 have:=hc (by rintro rfl; simp at hne)
 simp only [List.length_map,Nat.mul_one,flat_u8]
 exact this
theorem RV.bytes (R : RV L i rv rest) (S : Stt prog n0 h0 h L O) : Bytes h rv rest:=by
 rcases R with ⟨rfl,rfl⟩ | ⟨j,bb,o,cs,e,h1,h2,h3,rfl,h5⟩
 ·exact .inl ⟨rfl,rfl⟩
 ·exact .inr ⟨bb,o,rest.length,true,by simp,by simp,RV.lie (S.sta.mem.at_ h2) h5⟩
theorem RV.drop (R : RV L i rv rest) (S : Stt prog n0 h0 h L O) {n : Nat} (hn : n ≤ rest.length) : ∃ rv',pSlice prog 93 rv (some (.int .i64 n)) none none h = some rv' ∧ RV L i rv' (rest.drop n) ∧ oneCell rv' = true ∧ rv'.cells.toList = [rv'] ∧ rv'.cells.size = 1:=by
 have hm : ∀ d : Int,intOr d (some (.int .i64 (n : Int))) = some (n : Int):=fun d=>rfl
 have hm2 : ∀ d : Int,intOr d none = some d:=fun d=>rfl
 rcases R with ⟨rfl,rfl⟩ | ⟨j,bb,o,cs,e,h1,h2,h3,rfl,h5⟩
 ·have : n = 0:=by simpa using hn
  subst this
  refine ⟨.slice none 0 0,?_,.inl ⟨rfl,rfl⟩,rfl,rfl,rfl⟩
  unfold pSlice
  simp only [el93,Option.bind_some,sz5,hm,hm2]
  simp
 ·refine ⟨.slice (some ⟨bb,o + n * 1,none⟩) (rest.length - n) (rest.length - n),?_,.inr ⟨j,bb,o + n * 1,cs,e,h1,h2,h3,by simp,fun hne=>?_⟩,rfl,rfl,rfl⟩
  ·have hz : szOk prog (some ⟨bb,o,none⟩) 1 h = true:=by
    unfold szOk
    simp only [S.sta.mem.at_ h2,h3]
    simp
   unfold pSlice
   simp only [el93,Option.bind_some,sz5,hm,hm2]
   rw [if_pos ⟨by omega,by omega,by omega,by omega,.inl rfl,.inr (.inr hz)⟩]
   simp only [Option.map_some,Int.toNat_natCast,Option.some.injEq,Value.slice.injEq,true_and]
   omega
  ·have hne' : rest ≠ []:=by rintro rfl; simp at hne
   obtain ⟨q1,q2⟩:=h5 hne'
   refine ⟨by simp; omega,?_⟩
   rw [List.map_drop,← q2,List.drop_take,List.drop_drop]
   simp
theorem RV.take (R : RV L i rv rest) {n : Nat} (hn : n ≤ rest.length) : ∃ out,pSlice prog 93 rv none (some (.int .i64 n)) (some (.int .i64 n)) h = some out ∧
  ∀ {h' : AH} {L' : List (Nat × AO)} {O' : List OS},Stt prog n0 h0 h' L' O'→(∀ j,j ≠ i→L'[j]? = L[j]?)→Bytes h' out (rest.take n):=by
 have hm : ∀ d : Int,intOr d (some (.int .i64 (n : Int))) = some (n : Int):=fun d=>rfl
 have hm2 : ∀ d : Int,intOr d none = some d:=fun d=>rfl
 rcases R with ⟨rfl,rfl⟩ | ⟨j,bb,o,cs,e,h1,h2,h3,rfl,h5⟩
 ·have : n = 0:=by simpa using hn
  subst this
  refine ⟨.slice none 0 0,?_,fun _ _=>.inl ⟨rfl,rfl⟩⟩
  unfold pSlice
  simp only [el93,Option.bind_some,sz5,hm,hm2]
  simp
 ·refine ⟨.slice (some ⟨bb,o,none⟩) n n,?_,fun S' hk=>.inr ⟨bb,o,n,true,by simp; omega,by simp; omega,?_⟩⟩
  ·unfold pSlice
   simp only [el93,Option.bind_some,sz5,hm,hm2]
   rw [if_pos ⟨by omega,by omega,by omega,by omega,by simp,by simp⟩]
   simp
  ·refine RV.lie (S'.sta.mem.at_ ((hk j h1).trans h2)) fun hq=>?_
   have hne' : rest ≠ []:=by rintro rfl; simp at hq
   obtain ⟨q1,q2⟩:=h5 hne'
   refine ⟨by simp; omega,?_⟩
   rw [List.map_take,← q2,List.take_take]
   simp
end
end Go.Proofs.YtlbmlncdjkdoaaaGreat.Sh
/- What 'zone.Join' and 'zone.Of' come to. -/
set_option linter.unusedVariables false
set_option linter.unusedSimpArgs false
set_option maxRecDepth 100000
namespace Go.Proofs.YtlbmlncdjkdoaaaGreat.Sh
open Go Go.RowKit Go.Proofs.Ev Go.Lib
open Tryz (prog)
def bzZc:=PLift.up (ai @ld3 (ai @ld2 (ai @ld9 (ai @ld39 (ai @ld53 (ai @fa39_0 (ai @fa39_1 (ai @fa39_2 (ai @fa53_0 (ai @fa53_1 (ai @fa53_2 (ai @fa53_3 (ai @aggC (ai @aggZ (@Nat.add_zero)))))))))))))))
section
variable {n0 : Nat} {h0 h : AH} {L : List (Nat × AO)} {O : List OS}
/-- What 'Join' makes of the ends. -/
theorem f93_ends {β : Type} {k : Nat} {Q : β→Prop} {b2 b3 b4 b5 : Nat} {a b w z : ZoneD} {kn : Value→Value→Value→Value→Value→AH→Option β} (hz1 : z.mn = a.mn) (hz2 : z.mx = a.mx)
  (S : Stt prog n0 h0 h [Zr b5 z,Zr b4 w,Zr b3 b,Zr b2 a] O)
  (hk : ∀ y3 y33 y53 h',Stt prog n0 h0 h' [Zr b5 ⟨z.cnt,z.nul,if a.cnt = a.nul then b.mn else if b.cnt = b.nul then a.mn else mn2 a.mn b.mn,if a.cnt = a.nul then b.mx else if b.cnt = b.nul then a.mx else mx2 a.mx b.mx⟩,Zr b4 w,Zr b3 b,Zr b2 a] O →
   Tl (kn y3 (ptr b4) (ptr b5) y33 y53 h') Q) :
  Tl (F93_lrr (eInv env (k + 11)) (k + 11) (ptr b2) (ptr b3) (ptr b4) (ptr b5) h kn) Q:=by
 obtain ⟨_,a2,a3,a4,a5,_,_⟩:=z_at S 3 rfl
 obtain ⟨_,p2,p3,p4,p5,_,_⟩:=z_at S 2 rfl
 obtain ⟨_,q2,q3,q4,q5,_,_⟩:=z_at S 0 rfl
 unfold F93_lrr ptr
 by_cases n1 : a.cnt = a.nul
 ·simp only [if_pos n1] at hk
  with_reducible repeat (first | (apply qzV; simp (disch:=omega) only [zA,bzZc.1,a2,a3,p4,p5] <;> rfl) | apply qzT | apply qzF | (apply qzB; simp (disch:=omega) only [zA,bzZc.1,a2,a3,p4,p5] <;> rfl))
  refine Tl.store' S 0 rfl sz39 rfl rfl (of_decide_eq_true rfl) fun h1 S1 _=>?_
  have S1 : Stt prog n0 h0 h1 [Zr b5 ⟨z.cnt,z.nul,b.mn,z.mx⟩,Zr b4 w,Zr b3 b,Zr b2 a] O:=S1
  obtain ⟨_,s2,s3,s4,s5,_,_⟩:=z_at S1 2 rfl
  with_reducible repeat (first | (apply qzV; simp (disch:=omega) only [zA,bzZc.1,s5] <;> rfl) | apply qzT | apply qzF | (apply qzB; simp (disch:=omega) only [zA,bzZc.1,s5] <;> rfl))
  refine Tl.store' S1 0 rfl sz39 rfl rfl (of_decide_eq_true rfl) fun h2 S2 _=>?_
  have S2 : Stt prog n0 h0 h2 [Zr b5 ⟨z.cnt,z.nul,b.mn,b.mx⟩,Zr b4 w,Zr b3 b,Zr b2 a] O:=S2
  with_reducible refine Tl.chk ?_ ?_
  ·simp only [ld39,p5,s5,Option.map_some,aggC,sameO_some,sameC,Bool.and_self,Bool.not_true,Bool.or_true,Bool.true_and,Bool.false_or]
  exact hk _ _ _ _ S2
 ·simp only [if_neg n1] at hk
  by_cases n2 : b.cnt = b.nul
  ·simp only [if_pos n2] at hk
   with_reducible repeat (first | (apply qzV; simp (disch:=omega) only [zA,bzZc.1,a2,a3,p2,p3] <;> rfl) | apply qzT | apply qzF | (apply qzB; simp (disch:=omega) only [zA,bzZc.1,a2,a3,p2,p3] <;> rfl))
   refine hk _ _ _ _ ?_
   rw [← hz1,← hz2]
   exact S
  ·simp only [if_neg n2] at hk
   with_reducible repeat (first | (apply qzV; simp (disch:=omega) only [zA,bzZc.1,a2,a3,p2,p3,p4,q4] <;> rfl) | apply qzT | apply qzF | (apply qzB; simp (disch:=omega) only [zA,bzZc.1,a2,a3,p2,p3,p4,q4] <;> rfl))
   with_reducible refine Tl.call' S (f146c (k:=k + 2) b.mn z.mn h) fun h1 S1 _=>?_
   have key : ∀ (h2 : AH) (y44 : Value) (m : CellD),m = mn2 a.mn b.mn→Stt prog n0 h0 h2 [Zr b5 ⟨z.cnt,z.nul,m,z.mx⟩,Zr b4 w,Zr b3 b,Zr b2 a] O→Tl (Ev.bnd (pFieldAddr prog 53 (.pointer (some ⟨b3,0,none⟩)) 3) fun x48=>Ev.bnd (pLoad prog 39 x48 h2) fun x49=>Ev.bnd (pFieldAddr prog 53 (.pointer (some ⟨b5,0,none⟩)) 3) fun x50=>Ev.bnd (pLoad prog 39 x50 h2) fun x51 =>
     Ev.bnd (eInv env (k + 11) (.func 146) #[] #[x49,x51] h2) fun x52=>Ev.bnd (pBin prog Go.BinOp.gtr 3 (Go.Operand.tmp 52) (Go.Operand.const (Go.Value.int Go.IntKind.i64 0)) x52.1 (Go.Value.int Go.IntKind.i64 0)) fun x53 =>
     brV x53 (Ev.bnd (pFieldAddr prog 53 (.pointer (some ⟨b3,0,none⟩)) 3) fun x54=>Ev.bnd (pLoad prog 39 x54 x52.2) fun x55=>Ev.bnd (pFieldAddr prog 53 (.pointer (some ⟨b5,0,none⟩)) 3) fun x56=>Ev.bnd (kSt (pStore prog 39 x56 x55 x52.2)) fun u_3=>kn unk (ptr b4) (ptr b5) unk unk u_3.2)
      (kn (ptr b3) (ptr b4) (ptr b5) unk x53 x52.2)) Q:=by
    intro h2 y44 m hm S2
    obtain ⟨_,p2,p3,p4,p5,_,_⟩:=z_at S2 2 rfl
    obtain ⟨_,q2,q3,q4,q5,_,_⟩:=z_at S2 0 rfl
    with_reducible repeat (first | (apply qzV; simp (disch:=omega) only [zA,bzZc.1,p5,q5] <;> rfl) | apply qzT | apply qzF | (apply qzB; simp (disch:=omega) only [zA,bzZc.1,p5,q5] <;> rfl))
    with_reducible refine Tl.call' S2 (f146c (k:=k + 2) b.mx z.mx h2) fun h3 S3 _=>?_
    obtain ⟨_,p2,p3,p4,p5,_,_⟩:=z_at S3 2 rfl
    subst hm
    by_cases e3 : b.mx.cmp z.mx > 0
    ·have e3' : b.mx.cmp a.mx > 0:=by rw [← hz2]; exact e3
     with_reducible repeat (first | (apply qzV; simp (disch:=omega) only [zA,bzZc.1,p5] <;> rfl) | apply qzT | apply qzF | (apply qzB; simp (disch:=omega) only [zA,bzZc.1,p5] <;> rfl))
     refine Tl.store' S3 0 rfl sz39 rfl rfl (of_decide_eq_true rfl) fun h4 S4 _=>?_
     refine hk _ _ _ _ ?_
     rw [show mx2 a.mx b.mx = b.mx by unfold mx2; rw [if_pos e3']]
     exact S4
    ·have e3' : ¬ b.mx.cmp a.mx > 0:=by rw [← hz2]; exact e3
     with_reducible repeat (first | (apply qzV; simp (disch:=omega) only [zA,bzZc.1] <;> rfl) | apply qzT | apply qzF | (apply qzB; simp (disch:=omega) only [zA,bzZc.1] <;> rfl))
     refine hk _ _ _ _ ?_
     rw [show mx2 a.mx b.mx = z.mx by unfold mx2; rw [if_neg e3',hz2]]
     exact S3
   unfold F93_rllrrrllrr
   by_cases e3 : b.mn.cmp z.mn < 0
   ·have e3' : b.mn.cmp a.mn < 0:=by rw [← hz1]; exact e3
    obtain ⟨_,p2,p3,p4,p5,_,_⟩:=z_at S1 2 rfl
    with_reducible repeat (first | (apply qzV; simp (disch:=omega) only [zA,bzZc.1,p4] <;> rfl) | apply qzT | apply qzF | (apply qzB; simp (disch:=omega) only [zA,bzZc.1,p4] <;> rfl))
    refine Tl.store' S1 0 rfl sz39 rfl rfl (of_decide_eq_true rfl) fun h4 S4 _=>?_
    exact key h4 unk b.mn (by unfold mn2; rw [if_pos e3']) S4
   ·have e3' : ¬ b.mn.cmp a.mn < 0:=by rw [← hz1]; exact e3
    with_reducible repeat (first | (apply qzV; simp (disch:=omega) only [zA,bzZc.1] <;> rfl) | apply qzT | apply qzF | (apply qzB; simp (disch:=omega) only [zA,bzZc.1] <;> rfl))
    exact key h1 unk z.mn (by unfold mn2; rw [if_neg e3',hz1]) S1
/-- 'Join'. -/
theorem f93c {k : Nat} (a b : ZoneD) (h : AH) : Tl (eInv env (k + 12) (.func 93) #[] #[zv a,zv b] h) fun r=>r.1 = zv (joinZ a b) ∧ Grow h r.2:=by
 rw [F93_call]
 unfold F93
 refine Tl.box' (Stt.init h) rfl isZ fun b2 h1 S1 _=>?_
 refine Tl.box' S1 rfl isZ fun b3 h2 S2 _=>?_
 refine Tl.alloc' S2 ze53 rfl fun b4 h3 S3 _=>?_
 have S3 : Stt prog h.n h h3 [Zr b4 z0,Zr b3 b,Zr b2 a] []:=S3
 obtain ⟨_,a2,a3,a4,a5,_,_⟩:=z_at S3 2 rfl
 obtain ⟨_,p2,p3,p4,p5,_,_⟩:=z_at S3 1 rfl
 with_reducible repeat (first | (apply qzV; simp (disch:=omega) only [zA,bzZc.1,a2,a3,a4,a5,p2,p3,bdZc] <;> rfl) | apply qzT | apply qzF | (apply qzB; simp (disch:=omega) only [zA,bzZc.1,a2,a3,a4,a5,p2,p3,bdZc] <;> rfl))
 refine Tl.alloc' S3 ze53 rfl fun b5 h4 S4 _=>?_
 refine Tl.store' S4 0 rfl sz53 rfl rfl (of_decide_eq_true rfl) fun h5 S5 _=>?_
 have S5 : Stt prog h.n h h5 [Zr b5 ⟨IntKind.i64.wrap (a.cnt + b.cnt),IntKind.i64.wrap (a.nul + b.nul),a.mn,a.mx⟩,Zr b4 z0,Zr b3 b,Zr b2 a] []:=S5
 refine f93_ends (z:=⟨IntKind.i64.wrap (a.cnt + b.cnt),IntKind.i64.wrap (a.nul + b.nul),a.mn,a.mx⟩) (a:=a) (b:=b) (w:=z0) rfl rfl S5 fun y3 y33 y53 h6 S6=>?_
 have S6 : Stt prog h.n h h6 [Zr b5 (joinZ a b),Zr b4 z0,Zr b3 b,Zr b2 a] []:=S6
 have s1:=(z_at S6 0 rfl).all
 unfold ptr
 with_reducible repeat (first | (apply qzV; simp (disch:=omega) only [zA,bzZc.1,s1] <;> rfl) | apply qzT | apply qzF | (apply qzB; simp (disch:=omega) only [zA,bzZc.1,s1] <;> rfl))
 refine Tl.store' S6 1 rfl sz53 rfl rfl (of_decide_eq_true rfl) fun h7 S7 _=>?_
 have S7 : Stt prog h.n h h7 [Zr b5 (joinZ a b),Zr b4 (joinZ a b),Zr b3 b,Zr b2 a] []:=S7
 have t1:=(z_at S7 1 rfl).all
 with_reducible repeat (first | (apply qzV; simp (disch:=omega) only [zA,bzZc.1,t1] <;> rfl) | apply qzT | apply qzF | (apply qzB; simp (disch:=omega) only [zA,bzZc.1,t1] <;> rfl))
 exact ⟨_,rfl,rfl,S7.grow⟩
theorem f71_loop {β : Type} {k : Nat} {Q : β→Prop} {h0 : AH} {b2 : Nat} {v : Value} {l : List CellD} (S : Cells h0 v l) (hl : l.length ≤ 2 ^ 40) {ke0 : Value→Value→Value→Value→Value→AH→Option β} (n : Nat) :
  ∀ {i j : Nat} {z : ZoneD} {h : AH},i + n = l.length→n < j→Stt prog h0.n h0 h [Zr b2 z] [] →
   (∀ h' y7 y8,Stt prog h0.n h0 h' [Zr b2 ((l.drop i).foldl (fun z c=>joinZ z (oneZ c)) z)] []→Tl (ke0 (ptr b2) v (.int .i64 l.length) y7 y8 h') Q) →
   Tl (F71_lrlr (eInv env (k + 12)) (k + 12) j (ptr b2) v (.int .i64 l.length) (.int .i64 i) h ke0) Q:=by
 induction n with
 | zero =>
  intro i j z h hi hj T hk
  obtain ⟨j,rfl⟩ : ∃ q,j = q + 1:=⟨j - 1,by omega⟩
  simp only [F71_lrlr]
  with_reducible repeat (first | (apply qzV; simp (disch:=omega) only [zA,bzZc.1] <;> rfl) | apply qzT | apply qzF | (apply qzB; simp (disch:=omega) only [zA,bzZc.1] <;> rfl))
  refine hk _ _ _ ?_
  rw [List.drop_eq_nil_of_le (by omega)]
  exact T
 | succ n ih =>
  intro i j z h hi hj T hk
  obtain ⟨j,rfl⟩ : ∃ q,j = q + 1:=⟨j - 1,by omega⟩
  obtain ⟨c,hc⟩ : ∃ c,l[i]? = some c:=⟨_,List.getElem?_eq_getElem (by omega)⟩
  obtain ⟨b,o,hx,hr⟩:=(S.grow T.grow).at_ hc
  have e : (i : Int) + 1 = ((i + 1 : Nat) : Int):=by omega
  simp only [F71_lrlr]
  unfold ptr
  with_reducible repeat (first | (apply qzV; simp (disch:=omega) only [zA,bzZc.1,hx,hr] <;> rfl) | apply qzT | apply qzF | (apply qzB; simp (disch:=omega) only [zA,bzZc.1,hx,hr] <;> rfl))
  refine Tl.alloc' T ze39 rfl fun b4 h1 T1 _=>?_
  refine Tl.store' T1 0 rfl sz39 rfl rfl (of_decide_eq_true rfl) fun h2 T2 _=>?_
  have T2 : Stt prog h0.n h0 h2 [Cr b4 c,Zr b2 z] []:=T2
  obtain ⟨r4,_⟩:=c_at T2 0 rfl
  have r2:=(z_at T2 1 rfl).all
  with_reducible repeat (first | (apply qzV; simp (disch:=omega) only [zA,bzZc.1,r4,r2] <;> rfl) | apply qzT | apply qzF | (apply qzB; simp (disch:=omega) only [zA,bzZc.1,r4,r2] <;> rfl))
  with_reducible refine Tl.call' T2 (f94c (k:=k + 11) c h2) fun h3 T3 _=>?_
  with_reducible refine Tl.call' T3 (f93c (k:=k) z (oneZ c) h3) fun h4 T4 _=>?_
  have r3:=(z_at T3 1 rfl).all
  refine Tl.store' T4 1 rfl sz53 rfl rfl (of_decide_eq_true rfl) fun h5 T5 _=>?_
  have T5 : Stt prog h0.n h0 h5 [Cr b4 c,Zr b2 (joinZ z (oneZ c))] []:=T5
  with_reducible refine Tl.chk ?_ ?_
  ·simp only [ld53,r2,r3,Option.map_some,aggZ,sameO_some,sameZ,Bool.and_self,Bool.not_true,Bool.or_true,Bool.true_and,Bool.false_or]
  with_reducible repeat (first | (apply qzV; simp (disch:=omega) only [zA,bzZc.1] <;> rfl) | apply qzT | apply qzF | (apply qzB; simp (disch:=omega) only [zA,bzZc.1] <;> rfl))
  rw [e]
  refine ih (by omega) (by omega) T5.drop fun h' y7 y8 T'=>?_
  refine hk h' y7 y8 ?_
  rw [drop_at hc]
  exact T'
/-- 'Of'. -/
theorem f71c {k : Nat} {h : AH} {v : Value} {l : List CellD} (S : Cells h v l) (hl : l.length ≤ 2 ^ 40) (hk : l.length < k + 12) : Tl (eInv env (k + 13) (.func 71) #[] #[v] h) fun r=>r.1 = zv (ofZ l) ∧ Grow h r.2:=by
 rw [F71_call]
 unfold F71
 refine Tl.alloc' (Stt.init h) ze53 rfl fun b2 h1 S1 _=>?_
 have S1 : Stt prog h.n h h1 [Zr b2 z0] []:=S1
 have hlen : ∀ h',pLen prog #[34] v h' = some (.int .i64 l.length):=fun h'=>S.len
 with_reducible repeat (first | (apply qzV; simp (disch:=omega) only [zA,bzZc.1,hlen] <;> rfl) | apply qzT | apply qzF | (apply qzB; simp (disch:=omega) only [zA,bzZc.1,hlen] <;> rfl))
 refine f71_loop (i:=0) (z:=z0) S hl l.length (by omega) hk S1 fun h2 y7 y8 S2=>?_
 rw [List.drop_zero] at S2
 have r1:=(z_at S2 0 rfl).all
 unfold ptr
 with_reducible repeat (first | (apply qzV; simp (disch:=omega) only [zA,bzZc.1,r1] <;> rfl) | apply qzT | apply qzF | (apply qzB; simp (disch:=omega) only [zA,bzZc.1,r1] <;> rfl))
 refine Tl.store' S2 0 rfl sz53 rfl rfl (of_decide_eq_true rfl) fun h3 S3 _=>?_
 have S3 : Stt prog h.n h h3 [Zr b2 (ofZ l)] []:=S3
 have r3:=(z_at S3 0 rfl).all
 with_reducible repeat (first | (apply qzV; simp (disch:=omega) only [zA,bzZc.1,r3] <;> rfl) | apply qzT | apply qzF | (apply qzB; simp (disch:=omega) only [zA,bzZc.1,r3] <;> rfl))
 exact ⟨_,rfl,rfl,S3.grow⟩
end
end Go.Proofs.YtlbmlncdjkdoaaaGreat.Sh
/- What 'zone.Cell' comes to. -/
set_option linter.unusedVariables false
set_option linter.unusedSimpArgs false
set_option maxRecDepth 100000
namespace Go.Proofs.YtlbmlncdjkdoaaaGreat.Sh
open Go Go.RowKit Go.Proofs.Ev Go.Lib
open Tryz (prog)
def bzZd:=PLift.up (ai @ld3 (ai @ld2 (ai @ld9 (ai @ld39 (ai @fa39_0 (ai @fa39_1 (ai @fa39_2 (ai @aggC (@Nat.add_zero)))))))))
def and1 (i : Int) : Int:=IntKind.i64.wrap (BitVec.ofInt 64 i &&& BitVec.ofInt 64 1).toNat
def bare (c : CellD) : CellD:=if c.k = 0 then c0 else if c.k = 1 then ⟨c.k,c.i,.empty⟩ else if c.k = 2 then ⟨c.k,and1 c.i,.empty⟩ else ⟨c.k,0,c.s⟩
def cellE (c : CellD) : Int:=if c.s.size > 65536 then 3 else if c.k = 0 ∨ c.k = 1 ∨ c.k = 2 ∨ c.k = 3 then (if bare c = c then 0 else 2) else 2
theorem bdCk (k : Int) : pBuild prog 39 #[(0,.int .i64 k)] = some (CellD.v ⟨k,0,.empty⟩):=by kernel_rfl
theorem f85c {k : Nat} (c : CellD) (h : AH) : Tl (eInv env (k + 1) (.func 85) #[] #[c.v] h) fun r=>r.1 = .int .i64 (cellE c) ∧ Grow h r.2:=by
 rw [F85_call]
 unfold F85
 refine Tl.box' (Stt.init h) rfl isC fun b1 h1 S1 _=>?_
 have S1 : Stt prog h.n h h1 [Cr b1 c] []:=S1
 obtain ⟨_,kc,ic,sc⟩:=c_at S1 0 rfl
 have hs : ∀ h' : AH,pLen prog #[9] (.string c.s) h' = some (.int .i64 c.s.size):=fun h'=>len_string u9
 unfold cellE
 by_cases e0 : c.s.size > 65536
 ·rw [if_pos e0]
  with_reducible repeat (first | (apply qzV; simp (disch:=omega) only [zA,bzZd.1,sc,hs] <;> rfl) | apply qzT | apply qzF | (apply qzB; simp (disch:=omega) only [zA,bzZd.1,sc,hs] <;> rfl))
  exact ⟨_,rfl,rfl,S1.grow⟩
 rw [if_neg e0]
 with_reducible repeat (first | (apply qzV; simp (disch:=omega) only [zA,bzZd.1,sc,hs,kc,bdCk] <;> rfl) | apply qzT | apply qzF | (apply qzB; simp (disch:=omega) only [zA,bzZd.1,sc,hs,kc,bdCk] <;> rfl))
 refine Tl.alloc' S1 ze39 rfl fun b3 h2 S2 _=>?_
 refine Tl.store' S2 0 rfl sz39 rfl rfl (of_decide_eq_true rfl) fun h3 S3 _=>?_
 have S3 : Stt prog h.n h h3 [Cr b3 ⟨c.k,0,.empty⟩,Cr b1 c] []:=S3
 obtain ⟨_,kc3,ic3,sc3⟩:=c_at S3 1 rfl
 have fin : ∀ (d : CellD) (h4 : AH),Stt prog h.n h h4 [Cr b3 d,Cr b1 c] []→bare c = d→(c.k = 0 ∨ c.k = 1 ∨ c.k = 2 ∨ c.k = 3)→Tl (Ev.bnd (pLoad prog 39 (.pointer (some ⟨b3,0,none⟩)) h4) fun x31=>Ev.bnd (pLoad prog 39 (.pointer (some ⟨b1,0,none⟩)) h4) fun x32 =>
   Ev.bnd (pBin prog Go.BinOp.neq 39 (Go.Operand.tmp 31) (Go.Operand.tmp 32) x31 x32) fun x33=>brV x33 (some ((Go.Value.int Go.IntKind.i64 2),h4)) (some ((Go.Value.int Go.IntKind.i64 0),h4)))
   fun r=>r.1 = .int .i64 (if c.k = 0 ∨ c.k = 1 ∨ c.k = 2 ∨ c.k = 3 then (if bare c = c then 0 else 2) else 2) ∧ Grow h r.2:=by
  intro d h4 S4 hd hk
  rw [if_pos hk,hd]
  obtain ⟨r3,_⟩:=c_at S4 0 rfl
  obtain ⟨r1,_⟩:=c_at S4 1 rfl
  by_cases q : d = c
  ·have q' : (decide (d = c)) = true:=by simpa using q
   rw [if_pos q]
   with_reducible repeat (first | (apply qzV; simp (disch:=omega) only [zA,bzZd.1,r3,r1,neqC,q'] <;> rfl) | apply qzT | apply qzF | (apply qzB; simp (disch:=omega) only [zA,bzZd.1,r3,r1,neqC,q'] <;> rfl))
   exact ⟨_,rfl,rfl,S4.grow⟩
  ·have q' : (decide (d = c)) = false:=by simpa using q
   rw [if_neg q]
   with_reducible repeat (first | (apply qzV; simp (disch:=omega) only [zA,bzZd.1,r3,r1,neqC,q'] <;> rfl) | apply qzT | apply qzF | (apply qzB; simp (disch:=omega) only [zA,bzZd.1,r3,r1,neqC,q'] <;> rfl))
   exact ⟨_,rfl,rfl,S4.grow⟩
 with_reducible repeat (first | (apply qzV; simp (disch:=omega) only [zA,bzZd.1,kc3] <;> rfl) | apply qzT | apply qzF | (apply qzB; simp (disch:=omega) only [zA,bzZd.1,kc3] <;> rfl))
 unfold F85_rlrrr
 by_cases p0 : c.k = 0
 ·with_reducible repeat (first | (apply qzV; simp (disch:=omega) only [zA,bzZd.1] <;> rfl) | apply qzT | apply qzF | (apply qzB; simp (disch:=omega) only [zA,bzZd.1] <;> rfl))
  exact fin ⟨c.k,0,.empty⟩ h3 S3 (by unfold bare; rw [if_pos p0,p0]; rfl) (.inl p0)
 by_cases p1 : c.k = 1
 ·with_reducible repeat (first | (apply qzV; simp (disch:=omega) only [zA,bzZd.1,ic3] <;> rfl) | apply qzT | apply qzF | (apply qzB; simp (disch:=omega) only [zA,bzZd.1,ic3] <;> rfl))
  refine Tl.store' S3 0 rfl sz2 rfl rfl (of_decide_eq_true rfl) fun h4 S4 _=>?_
  exact fin ⟨c.k,c.i,.empty⟩ h4 S4 (by unfold bare; rw [if_neg p0,if_pos p1]) (.inr (.inl p1))
 by_cases p2 : c.k = 2
 ·with_reducible repeat (first | (apply qzV; simp (disch:=omega) only [zA,bzZd.1,ic3,bin_and] <;> rfl) | apply qzT | apply qzF | (apply qzB; simp (disch:=omega) only [zA,bzZd.1,ic3,bin_and] <;> rfl))
  refine Tl.store' S3 0 rfl sz2 rfl rfl (of_decide_eq_true rfl) fun h4 S4 _=>?_
  exact fin ⟨c.k,and1 c.i,.empty⟩ h4 S4 (by unfold bare; rw [if_neg p0,if_neg p1,if_pos p2]) (.inr (.inr (.inl p2)))
 by_cases p3 : c.k = 3
 ·with_reducible repeat (first | (apply qzV; simp (disch:=omega) only [zA,bzZd.1,sc3] <;> rfl) | apply qzT | apply qzF | (apply qzB; simp (disch:=omega) only [zA,bzZd.1,sc3] <;> rfl))
  refine Tl.store' S3 0 rfl sz9 rfl rfl (of_decide_eq_true rfl) fun h4 S4 _=>?_
  exact fin ⟨c.k,0,c.s⟩ h4 S4 (by unfold bare; rw [if_neg p0,if_neg p1,if_neg p2]) (.inr (.inr (.inr p3)))
 rw [if_neg (fun q=>q.elim p0 fun q=>q.elim p1 fun q=>q.elim p2 p3)]
 with_reducible repeat (first | (apply qzV; simp (disch:=omega) only [zA,bzZd.1] <;> rfl) | apply qzT | apply qzF | (apply qzB; simp (disch:=omega) only [zA,bzZd.1] <;> rfl))
 exact ⟨_,rfl,rfl,S3.grow⟩
end Go.Proofs.YtlbmlncdjkdoaaaGreat.Sh
/- Codecs: what they are made of. -/
set_option linter.unusedVariables false
set_option linter.unusedSimpArgs false
set_option maxRecDepth 100000
namespace Go.Proofs.YtlbmlncdjkdoaaaGreat.Sh
open Go Go.RowKit Go.Proofs.Ev Go.Lib
open Tryz (prog)
def bzS1:=PLift.up (ai @ld3 (ai @ld2 (ai @ld9 (ai @ld121 (ai @ld39 (ai @fa39_0 (ai @fa39_1 (ai @fa39_2 (ai (fun a h=>conv_int (a:=a) (h:=h) u2 u121) (ai (fun a h=>conv_int (a:=a) (h:=h) u121 u2) (ai (fun a h=>conv_int (a:=a) (h:=h) u121 u5) (ai (fun a h=>conv_int (a:=a) (h:=h) u3 u121) (ai @aggC (@Nat.add_zero))))))))))))))
def fnV1 (f : Nat) : Value:=.func (.func f) #[] #[]
def codNL : List Value:=[fnV1 122,fnV1 123,fnV1 124,fnV1 126,fnV1 128,fnV1 129]
def codTL : List Value:=[fnV1 131,fnV1 132,fnV1 133,fnV1 134,fnV1 135,fnV1 136]
def codWL : List Value:=[fnV1 138,fnV1 139,fnV1 140,fnV1 141,fnV1 143,fnV1 144]
/-- A kind's codec. -/
def codV (kind : Int) : Value:=if kind = 1 then .iface 132 (.agg codNL.toArray) else if kind = 2 then .iface 140 (.agg codTL.toArray) else if kind = 3 then .iface 148 (.agg codWL.toArray) else .nilIface
theorem bdN : pBuild prog 132 #[(0,(.func (.func 122) #[] #[])),(1,(.func (.func 123) #[] #[])),(2,(.func (.func 124) #[] #[])),(3,(.func (.func 126) #[] #[])),(4,(.func (.func 128) #[] #[])),(5,(.func (.func 129) #[] #[]))] = some (.agg codNL.toArray):=by kernel_rfl
theorem bdT : pBuild prog 140 #[(0,(.func (.func 131) #[] #[])),(1,(.func (.func 132) #[] #[])),(2,(.func (.func 133) #[] #[])),(3,(.func (.func 134) #[] #[])),(4,(.func (.func 135) #[] #[])),(5,(.func (.func 136) #[] #[]))] = some (.agg codTL.toArray):=by kernel_rfl
theorem bdW : pBuild prog 148 #[(0,(.func (.func 138) #[] #[])),(1,(.func (.func 139) #[] #[])),(2,(.func (.func 140) #[] #[])),(3,(.func (.func 141) #[] #[])),(4,(.func (.func 143) #[] #[])),(5,(.func (.func 144) #[] #[]))] = some (.agg codWL.toArray):=by kernel_rfl
theorem miN : pMakeIface prog 132 (.agg codNL.toArray) = some (.iface 132 (.agg codNL.toArray)):=by kernel_rfl
theorem miT : pMakeIface prog 140 (.agg codTL.toArray) = some (.iface 140 (.agg codTL.toArray)):=by kernel_rfl
theorem miW : pMakeIface prog 148 (.agg codWL.toArray) = some (.iface 148 (.agg codWL.toArray)):=by kernel_rfl
theorem f90c {k : Nat} (h : AH) : Tl (eInv env (k + 1) (.func 90) #[] #[] h) fun r=>r.1 = .agg codNL.toArray ∧ Grow h r.2:=by
 rw [F90_call]
 unfold F90
 refine Tl.alloc' (Stt.init h) ze132 rfl fun b1 h1 S1 _=>?_
 with_reducible repeat (first | (apply qzV; simp (disch:=omega) only [zA,bzS1.1,bdN] <;> rfl) | apply qzT | apply qzF | (apply qzB; simp (disch:=omega) only [zA,bzS1.1,bdN] <;> rfl))
 refine Tl.store' S1 0 rfl sz132 rfl rfl (of_decide_eq_true rfl) fun h2 S2 _=>?_
 have S2 : Stt prog h.n h h2 [(b1,.cells codNL 132 true)] []:=S2
 have r:=S2.row (n:=6) 0 rfl rfl
 with_reducible repeat (first | (apply qzV; simp (disch:=omega) only [zA,bzS1.1,ld132,r] <;> rfl) | apply qzT | apply qzF | (apply qzB; simp (disch:=omega) only [zA,bzS1.1,ld132,r] <;> rfl))
 exact ⟨_,rfl,rfl,S2.grow⟩
theorem f91c {k : Nat} (h : AH) : Tl (eInv env (k + 1) (.func 91) #[] #[] h) fun r=>r.1 = .agg codTL.toArray ∧ Grow h r.2:=by
 rw [F91_call]
 unfold F91
 refine Tl.alloc' (Stt.init h) ze140 rfl fun b1 h1 S1 _=>?_
 with_reducible repeat (first | (apply qzV; simp (disch:=omega) only [zA,bzS1.1,bdT] <;> rfl) | apply qzT | apply qzF | (apply qzB; simp (disch:=omega) only [zA,bzS1.1,bdT] <;> rfl))
 refine Tl.store' S1 0 rfl sz140 rfl rfl (of_decide_eq_true rfl) fun h2 S2 _=>?_
 have S2 : Stt prog h.n h h2 [(b1,.cells codTL 140 true)] []:=S2
 have r:=S2.row (n:=6) 0 rfl rfl
 with_reducible repeat (first | (apply qzV; simp (disch:=omega) only [zA,bzS1.1,ld140,r] <;> rfl) | apply qzT | apply qzF | (apply qzB; simp (disch:=omega) only [zA,bzS1.1,ld140,r] <;> rfl))
 exact ⟨_,rfl,rfl,S2.grow⟩
theorem f92c {k : Nat} (h : AH) : Tl (eInv env (k + 1) (.func 92) #[] #[] h) fun r=>r.1 = .agg codWL.toArray ∧ Grow h r.2:=by
 rw [F92_call]
 unfold F92
 refine Tl.alloc' (Stt.init h) ze148 rfl fun b1 h1 S1 _=>?_
 with_reducible repeat (first | (apply qzV; simp (disch:=omega) only [zA,bzS1.1,bdW] <;> rfl) | apply qzT | apply qzF | (apply qzB; simp (disch:=omega) only [zA,bzS1.1,bdW] <;> rfl))
 refine Tl.store' S1 0 rfl sz148 rfl rfl (of_decide_eq_true rfl) fun h2 S2 _=>?_
 have S2 : Stt prog h.n h h2 [(b1,.cells codWL 148 true)] []:=S2
 have r:=S2.row (n:=6) 0 rfl rfl
 with_reducible repeat (first | (apply qzV; simp (disch:=omega) only [zA,bzS1.1,ld148,r] <;> rfl) | apply qzT | apply qzF | (apply qzB; simp (disch:=omega) only [zA,bzS1.1,ld148,r] <;> rfl))
 exact ⟨_,rfl,rfl,S2.grow⟩
/-- 'of'. -/
theorem f70c {k : Nat} (kind : Int) (h : AH) : Tl (eInv env (k + 2) (.func 70) #[] #[.int .i64 kind] h) fun r=>r.1 = codV kind ∧ Grow h r.2:=by
 rw [F70_call]
 unfold F70 codV
 by_cases p1 : kind = 1
 ·rw [if_pos p1]
  with_reducible repeat (first | (apply qzV; simp (disch:=omega) only [zA,bzS1.1] <;> rfl) | apply qzT | apply qzF | (apply qzB; simp (disch:=omega) only [zA,bzS1.1] <;> rfl))
  with_reducible refine Tl.call' (Stt.init (P:=prog) h) (f90c (k:=k) h) fun h1 S1 _=>?_
  with_reducible repeat (first | (apply qzV; simp (disch:=omega) only [zA,bzS1.1,miN] <;> rfl) | apply qzT | apply qzF | (apply qzB; simp (disch:=omega) only [zA,bzS1.1,miN] <;> rfl))
  exact ⟨_,rfl,rfl,S1.grow⟩
 rw [if_neg p1]
 by_cases p2 : kind = 2
 ·rw [if_pos p2]
  with_reducible repeat (first | (apply qzV; simp (disch:=omega) only [zA,bzS1.1] <;> rfl) | apply qzT | apply qzF | (apply qzB; simp (disch:=omega) only [zA,bzS1.1] <;> rfl))
  with_reducible refine Tl.call' (Stt.init (P:=prog) h) (f91c (k:=k) h) fun h1 S1 _=>?_
  with_reducible repeat (first | (apply qzV; simp (disch:=omega) only [zA,bzS1.1,miT] <;> rfl) | apply qzT | apply qzF | (apply qzB; simp (disch:=omega) only [zA,bzS1.1,miT] <;> rfl))
  exact ⟨_,rfl,rfl,S1.grow⟩
 rw [if_neg p2]
 by_cases p3 : kind = 3
 ·rw [if_pos p3]
  with_reducible repeat (first | (apply qzV; simp (disch:=omega) only [zA,bzS1.1] <;> rfl) | apply qzT | apply qzF | (apply qzB; simp (disch:=omega) only [zA,bzS1.1] <;> rfl))
  with_reducible refine Tl.call' (Stt.init (P:=prog) h) (f92c (k:=k) h) fun h1 S1 _=>?_
  with_reducible repeat (first | (apply qzV; simp (disch:=omega) only [zA,bzS1.1,miW] <;> rfl) | apply qzT | apply qzF | (apply qzB; simp (disch:=omega) only [zA,bzS1.1,miW] <;> rfl))
  exact ⟨_,rfl,rfl,S1.grow⟩
 rw [if_neg p3]
 with_reducible repeat (first | (apply qzV; simp (disch:=omega) only [zA,bzS1.1] <;> rfl) | apply qzT | apply qzF | (apply qzB; simp (disch:=omega) only [zA,bzS1.1] <;> rfl))
 exact ⟨_,rfl,rfl,Grow.refl _⟩
end Go.Proofs.YtlbmlncdjkdoaaaGreat.Sh
/- What the functions of the octet's package come to: 'New', 'Bytes', 'Of', 'Number', 'Var'. -/
set_option linter.unusedVariables false
set_option linter.unusedSimpArgs false
set_option maxRecDepth 100000
namespace Go.Proofs.YtlbmlncdjkdoaaaGreat.Sh
open Go Go.RowKit Go.Proofs.Ev
section
variable {n0 : Nat} {h0 h : AH} {L : List (Nat × AO)} {O : List OS} {i br : Nat} {rv : Value} {rest : List Nat}
/-! ### 'Of' -/
/-! ### 'Var' -/
end
end Go.Proofs.YtlbmlncdjkdoaaaGreat.Sh
