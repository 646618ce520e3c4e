/- Zones of cells: joined zones are zones of both rows. No program in sight. -/
import Derived.Test.YtlbmlncdjkdoaaaGreatOrdC
set_option linter.unusedVariables false
set_option linter.unusedSimpArgs false
namespace Go.Proofs.Ev
open Go Go.Lib
def c0 : CellD:=⟨0,0,.empty⟩
def mn2 (a b : CellD) : CellD:=if b.cmp a < 0 then b else a
def mx2 (a b : CellD) : CellD:=if b.cmp a > 0 then b else a
theorem CellD.cmp_antisymm {a b : CellD} (h1 : a.cmp b ≤ 0) (h2 : b.cmp a ≤ 0) : a = b:=by
 have:=CellD.cmp_anti a b
 exact (CellD.cmp_zero a b).1 (by omega)
theorem CellD.cmp_self (a : CellD) : a.cmp a = 0:=(CellD.cmp_zero a a).2 rfl
/-- 'm' is the least of 'a', 'b'. -/
theorem mn2_spec (a b : CellD) : (mn2 a b).cmp a ≤ 0 ∧ (mn2 a b).cmp b ≤ 0 ∧ (mn2 a b = a ∨ mn2 a b = b):=by
 unfold mn2
 split
 ·rename_i h; exact ⟨by omega,by rw [CellD.cmp_self]; omega,.inr rfl⟩
 ·rename_i h; exact ⟨by rw [CellD.cmp_self]; omega,by rw [CellD.cmp_anti]; omega,.inl rfl⟩
theorem mx2_spec (a b : CellD) : a.cmp (mx2 a b) ≤ 0 ∧ b.cmp (mx2 a b) ≤ 0 ∧ (mx2 a b = a ∨ mx2 a b = b):=by
 unfold mx2
 split
 ·rename_i h; exact ⟨by rw [CellD.cmp_anti]; omega,by rw [CellD.cmp_self]; omega,.inr rfl⟩
 ·rename_i h; exact ⟨by rw [CellD.cmp_self]; omega,by omega,.inl rfl⟩
/-- The least of a row of cells that is not empty. -/
def mnL : List CellD→CellD
 | []=>c0
 | c :: l=>l.foldl mn2 c
def mxL : List CellD→CellD
 | []=>c0
 | c :: l=>l.foldl mx2 c
theorem foldl_mn2 : ∀ (l : List CellD) (c : CellD),(l.foldl mn2 c).cmp c ≤ 0 ∧ (∀ x ∈ l,(l.foldl mn2 c).cmp x ≤ 0) ∧ (l.foldl mn2 c = c ∨ l.foldl mn2 c ∈ l):=by
 intro l
 induction l with
 | nil=>intro c; exact ⟨by simp [CellD.cmp_self],fun x hx=>(by cases hx),.inl rfl⟩
 | cons a l ih =>
  intro c
  obtain ⟨h1,h2,h3⟩:=ih (mn2 c a)
  obtain ⟨q1,q2,q3⟩:=mn2_spec c a
  refine ⟨CellD.cmp_trans h1 q1,fun x hx=>?_,?_⟩
  ·rcases List.mem_cons.1 hx with rfl | hx
   ·exact CellD.cmp_trans h1 q2
   ·exact h2 x hx
  ·rcases h3 with h3 | h3
   ·simp only [List.foldl_cons]
    rw [h3]
    rcases q3 with q3 | q3
    ·exact .inl q3
    ·exact .inr (by rw [q3]; simp)
   ·exact .inr (by simp [h3])
theorem foldl_mx2 : ∀ (l : List CellD) (c : CellD),c.cmp (l.foldl mx2 c) ≤ 0 ∧ (∀ x ∈ l,x.cmp (l.foldl mx2 c) ≤ 0) ∧ (l.foldl mx2 c = c ∨ l.foldl mx2 c ∈ l):=by
 intro l
 induction l with
 | nil=>intro c; exact ⟨by simp [CellD.cmp_self],fun x hx=>(by cases hx),.inl rfl⟩
 | cons a l ih =>
  intro c
  obtain ⟨h1,h2,h3⟩:=ih (mx2 c a)
  obtain ⟨q1,q2,q3⟩:=mx2_spec c a
  refine ⟨CellD.cmp_trans q1 h1,fun x hx=>?_,?_⟩
  ·rcases List.mem_cons.1 hx with rfl | hx
   ·exact CellD.cmp_trans q2 h1
   ·exact h2 x hx
  ·rcases h3 with h3 | h3
   ·simp only [List.foldl_cons]
    rw [h3]
    rcases q3 with q3 | q3
    ·exact .inl q3
    ·exact .inr (by rw [q3]; simp)
   ·exact .inr (by simp [h3])
/-- What is least of a row is one of it, and no other one is less: these two tell it. -/
theorem mnL_spec {l : List CellD} (h : l ≠ []) : mnL l ∈ l ∧ ∀ x ∈ l,(mnL l).cmp x ≤ 0:=by
 cases l with
 | nil=>exact absurd rfl h
 | cons c l =>
  obtain ⟨h1,h2,h3⟩:=foldl_mn2 l c
  refine ⟨?_,fun x hx=>?_⟩
  ·rcases h3 with h3 | h3
   ·simp [mnL,h3]
   ·simp [mnL,h3]
  ·rcases List.mem_cons.1 hx with rfl | hx
   ·exact h1
   ·exact h2 x hx
theorem mxL_spec {l : List CellD} (h : l ≠ []) : mxL l ∈ l ∧ ∀ x ∈ l,x.cmp (mxL l) ≤ 0:=by
 cases l with
 | nil=>exact absurd rfl h
 | cons c l =>
  obtain ⟨h1,h2,h3⟩:=foldl_mx2 l c
  refine ⟨?_,fun x hx=>?_⟩
  ·rcases h3 with h3 | h3
   ·simp [mxL,h3]
   ·simp [mxL,h3]
  ·rcases List.mem_cons.1 hx with rfl | hx
   ·exact h1
   ·exact h2 x hx
theorem mnL_unique {l : List CellD} {m : CellD} (hm : m ∈ l) (h : ∀ x ∈ l,m.cmp x ≤ 0) : mnL l = m:=by
 have hne : l ≠ []:=by rintro rfl; cases hm
 obtain ⟨h1,h2⟩:=mnL_spec hne
 exact CellD.cmp_antisymm (h2 m hm) (h _ h1)
theorem mxL_unique {l : List CellD} {m : CellD} (hm : m ∈ l) (h : ∀ x ∈ l,x.cmp m ≤ 0) : mxL l = m:=by
 have hne : l ≠ []:=by rintro rfl; cases hm
 obtain ⟨h1,h2⟩:=mxL_spec hne
 exact CellD.cmp_antisymm (h _ h1) (h2 m hm)
theorem mnL_append {v w : List CellD} (hv : v ≠ []) (hw : w ≠ []) : mnL (v ++ w) = mn2 (mnL v) (mnL w):=by
 obtain ⟨a1,a2⟩:=mnL_spec hv
 obtain ⟨b1,b2⟩:=mnL_spec hw
 obtain ⟨q1,q2,q3⟩:=mn2_spec (mnL v) (mnL w)
 refine mnL_unique ?_ fun x hx=>?_
 ·rcases q3 with q3 | q3 <;> rw [q3] <;> simp [a1,b1]
 ·rcases List.mem_append.1 hx with hx | hx
  ·exact CellD.cmp_trans q1 (a2 x hx)
  ·exact CellD.cmp_trans q2 (b2 x hx)
theorem mxL_append {v w : List CellD} (hv : v ≠ []) (hw : w ≠ []) : mxL (v ++ w) = mx2 (mxL v) (mxL w):=by
 obtain ⟨a1,a2⟩:=mxL_spec hv
 obtain ⟨b1,b2⟩:=mxL_spec hw
 obtain ⟨q1,q2,q3⟩:=mx2_spec (mxL v) (mxL w)
 refine mxL_unique ?_ fun x hx=>?_
 ·rcases q3 with q3 | q3 <;> rw [q3] <;> simp [a1,b1]
 ·rcases List.mem_append.1 hx with hx | hx
  ·exact CellD.cmp_trans (a2 x hx) q1
  ·exact CellD.cmp_trans (b2 x hx) q2
structure ZoneD where
 cnt : Int
 nul : Int
 mn : CellD
 mx : CellD
 deriving DecidableEq
/-- The zone of so many cells, those that are not null listed. -/
def repZ (n : Nat) (V : List CellD) : ZoneD:=⟨n,(n : Int) - V.length,mnL V,mxL V⟩
def joinZ (a b : ZoneD) : ZoneD :=
 ⟨IntKind.i64.wrap (a.cnt + b.cnt),IntKind.i64.wrap (a.nul + b.nul),
  if a.cnt = a.nul then b.mn else if b.cnt = b.nul then a.mn else mn2 a.mn b.mn,if a.cnt = a.nul then b.mx else if b.cnt = b.nul then a.mx else mx2 a.mx b.mx⟩
def oneZ (c : CellD) : ZoneD:=if c.k = 0 then ⟨1,1,c0,c0⟩ else ⟨1,0,c,c⟩
def ofZ (l : List CellD) : ZoneD:=l.foldl (fun z c=>joinZ z (oneZ c)) ⟨0,0,c0,c0⟩
def vals (l : List CellD) : List CellD:=l.filter fun c=>c.k != 0
theorem wrap_i64 {z : Int} (h0 : -9223372036854775808 ≤ z) (h1 : z ≤ 9223372036854775807) : IntKind.i64.wrap z = z:=by
 unfold IntKind.wrap
 simp [IntKind.signed,IntKind.bits]
 omega
theorem joinZ_rep {n m : Nat} {V W : List CellD} (hn : V.length ≤ n) (hm : W.length ≤ m) (hs : n + m ≤ 2 ^ 62) : joinZ (repZ n V) (repZ m W) = repZ (n + m) (V ++ W):=by
 unfold joinZ repZ
 simp only
 rw [wrap_i64 (by omega) (by omega),wrap_i64 (by omega) (by omega)]
 by_cases hv : V = []
 ·subst hv
  simp
  omega
 ·have h1 : ¬ ((n : Int) = (n : Int) - V.length):=by
   have : 0 < V.length:=List.length_pos_iff.2 hv
   omega
  by_cases hw : W = []
  ·subst hw
   simp [h1]
   omega
  ·have h2 : ¬ ((m : Int) = (m : Int) - W.length):=by
    have : 0 < W.length:=List.length_pos_iff.2 hw
    omega
   simp only [h1,h2,if_false,mnL_append hv hw,mxL_append hv hw,List.length_append]
   congr 1 <;> omega
theorem oneZ_rep (c : CellD) : oneZ c = repZ 1 (vals [c]):=by
 unfold oneZ repZ vals
 by_cases h : c.k = 0
 ·simp [h,mnL,mxL]
 ·simp [h,mnL,mxL]
theorem vals_le (l : List CellD) : (vals l).length ≤ l.length:=List.length_filter_le _ _
theorem vals_append (a b : List CellD) : vals (a ++ b) = vals a ++ vals b:=by simp [vals]
theorem ofZ_rep : ∀ (l : List CellD),l.length ≤ 2 ^ 60→ofZ l = repZ l.length (vals l):=by
 have key : ∀ (l a : List CellD),a.length + l.length ≤ 2 ^ 60→l.foldl (fun z c=>joinZ z (oneZ c)) (repZ a.length (vals a)) = repZ (a ++ l).length (vals (a ++ l)):=by
  intro l
  induction l with
  | nil=>intro a _; simp
  | cons c l ih =>
   intro a h
   simp only [List.length_cons] at h
   rw [List.foldl_cons,oneZ_rep,joinZ_rep (vals_le a) (m:=1) (vals_le [c]) (by omega),← vals_append]
   have:=ih (a ++ [c]) (by simp; omega)
   simpa using this
 intro l h
 have:=key l [] (by simpa using h)
 simpa [repZ,vals,mnL,mxL,ofZ] using this
end Go.Proofs.Ev
