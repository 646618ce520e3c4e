/- Cells in order: kinds, numbers, texts; it is a total order. No program in sight. -/
import Derived.Test.YtlbmlncdjkdoaaaGreatEvB
set_option linter.unusedVariables false
set_option linter.unusedSimpArgs false
namespace Go.Proofs.Ev
open Go Go.Lib
theorem cb_range (a b : List UInt8) : compareBytes a b = -1 ∨ compareBytes a b = 0 ∨ compareBytes a b = 1:=by
 induction a generalizing b with
 | nil=>cases b <;> simp [compareBytes]
 | cons x a ih=>cases b with
  | nil=>simp [compareBytes]
  | cons y b =>
   simp only [compareBytes]
   split
   ·simp
   ·split
    ·simp
    ·exact ih b
theorem cb_anti (a b : List UInt8) : compareBytes a b = - compareBytes b a:=by
 induction a generalizing b with
 | nil=>cases b <;> simp [compareBytes]
 | cons x a ih=>cases b with
  | nil=>simp [compareBytes]
  | cons y b =>
   simp only [compareBytes]
   by_cases h1 : x < y
   ·have h2 : ¬ y < x:=by rw [UInt8.lt_iff_toNat_lt] at *; omega
    simp [h1,h2]
   ·by_cases h2 : y < x
    ·simp [h1,h2]
    ·simp [h1,h2,ih b]
theorem cb_zero (a b : List UInt8) : compareBytes a b = 0 ↔ a = b:=by
 induction a generalizing b with
 | nil=>cases b <;> simp [compareBytes]
 | cons x a ih=>cases b with
  | nil=>simp [compareBytes]
  | cons y b =>
   simp only [compareBytes]
   by_cases h1 : x < y
   ·have : x ≠ y:=by rintro rfl; rw [UInt8.lt_iff_toNat_lt] at h1; omega
    simp [h1,this]
   ·by_cases h2 : y < x
    ·have : x ≠ y:=by rintro rfl; rw [UInt8.lt_iff_toNat_lt] at h2; omega
     simp [h1,h2,this]
    ·have : x = y:=by rw [UInt8.lt_iff_toNat_lt] at h1 h2; exact UInt8.toNat_inj.1 (by omega)
     simp [h1,h2,this,ih b]
theorem cb_trans (a b c : List UInt8) (h1 : compareBytes a b ≤ 0) (h2 : compareBytes b c ≤ 0) : compareBytes a c ≤ 0:=by
 induction a generalizing b c with
 | nil=>cases c <;> simp [compareBytes]
 | cons x a ih=>cases b with
  | nil=>simp [compareBytes] at h1
  | cons y b=>cases c with
   | nil=>simp [compareBytes] at h2
   | cons z c =>
    simp only [compareBytes] at *
    simp only [UInt8.lt_iff_toNat_lt] at *
    by_cases q1 : x.toNat < y.toNat
    ·by_cases q2 : y.toNat < z.toNat
     ·have : x.toNat < z.toNat:=by omega
      simp [this]
     ·by_cases q3 : z.toNat < y.toNat
      ·simp [q2,q3] at h2
      ·have : x.toNat < z.toNat:=by omega
       simp [this]
    ·by_cases q4 : y.toNat < x.toNat
     ·simp [q1,q4] at h1
     ·simp only [q1,q4,if_false] at h1
      by_cases q2 : y.toNat < z.toNat
      ·have : x.toNat < z.toNat:=by omega
       simp [this]
      ·by_cases q3 : z.toNat < y.toNat
       ·simp [q2,q3] at h2
       ·simp only [q2,q3,if_false] at h2
        have n1 : ¬ x.toNat < z.toNat:=by omega
        have n2 : ¬ z.toNat < x.toNat:=by omega
        simp only [n1,n2,if_false]
        exact ih b c h1 h2
def cmpI (a b : Int) : Int:=if a < b then -1 else if b < a then 1 else 0
theorem cmpI_range (a b : Int) : cmpI a b = -1 ∨ cmpI a b = 0 ∨ cmpI a b = 1:=by
 unfold cmpI
 split
 ·simp
 ·split <;> simp
theorem cmpI_anti (a b : Int) : cmpI a b = - cmpI b a:=by
 unfold cmpI
 by_cases h1 : a < b
 ·have : ¬ b < a:=by omega
  simp [h1,this]
 ·by_cases h2 : b < a <;> simp [h1,h2]
theorem cmpI_zero (a b : Int) : cmpI a b = 0 ↔ a = b:=by
 unfold cmpI
 by_cases h1 : a < b
 ·simp [h1]; omega
 ·by_cases h2 : b < a
  ·simp [h1,h2]; omega
  ·simp [h1,h2]; omega
theorem cmpI_neg (a b : Int) : cmpI a b = -1 ↔ a < b:=by
 unfold cmpI
 by_cases h1 : a < b
 ·simp [h1]
 ·by_cases h2 : b < a <;> simp [h1,h2]
theorem cmpI_pos (a b : Int) : cmpI a b = 1 ↔ b < a:=by
 unfold cmpI
 by_cases h1 : a < b
 ·simp [h1]; omega
 ·by_cases h2 : b < a <;> simp [h1,h2]
structure CellD where
 k : Int
 i : Int
 s : ByteArray
 deriving DecidableEq
def CellD.bytes (a : CellD) : List UInt8:=a.s.data.toList
theorem CellD.ext' {a b : CellD} (h1 : a.k = b.k) (h2 : a.i = b.i) (h3 : a.bytes = b.bytes) : a = b:=by
 obtain ⟨ak,ai,⟨⟨al⟩⟩⟩:=a
 obtain ⟨bk,bi,⟨⟨bl⟩⟩⟩:=b
 simp only [CellD.bytes] at *
 subst h1; subst h2; subst h3
 rfl
/-- The first that is not zero. -/
def orI (a b : Int) : Int:=if a = 0 then b else a
def CellD.cmp (a b : CellD) : Int:=orI (cmpI a.k b.k) (orI (cmpI a.i b.i) (compareBytes a.bytes b.bytes))
theorem CellD.cmp_anti (a b : CellD) : a.cmp b = - b.cmp a:=by
 unfold CellD.cmp orI
 rw [cmpI_anti a.k b.k,cmpI_anti a.i b.i,cb_anti a.bytes b.bytes]
 rcases cmpI_range b.k a.k with h | h | h <;> rcases cmpI_range b.i a.i with h' | h' | h' <;> rcases cb_range b.bytes a.bytes with h'' | h'' | h'' <;> simp [h,h',h'']
theorem CellD.cmp_zero (a b : CellD) : a.cmp b = 0 ↔ a = b:=by
 constructor
 ·intro h
  unfold CellD.cmp orI at h
  have h1 : cmpI a.k b.k = 0:=by
   rcases cmpI_range a.k b.k with q | q | q <;> simp [q] at h ⊢
  simp only [h1,if_true] at h
  have h2 : cmpI a.i b.i = 0:=by
   rcases cmpI_range a.i b.i with q | q | q <;> simp [q] at h ⊢
  simp only [h2,if_true] at h
  exact CellD.ext' ((cmpI_zero _ _).1 h1) ((cmpI_zero _ _).1 h2) ((cb_zero _ _).1 h)
 ·rintro rfl
  unfold CellD.cmp orI
  simp [(cmpI_zero a.k a.k).2 rfl,(cmpI_zero a.i a.i).2 rfl,(cb_zero a.bytes a.bytes).2 rfl]
theorem CellD.cmp_trans {a b c : CellD} (h1 : a.cmp b ≤ 0) (h2 : b.cmp c ≤ 0) : a.cmp c ≤ 0:=by
 have key : ∀ a b : CellD,a.cmp b ≤ 0 ↔ a.k < b.k ∨ a.k = b.k ∧ (a.i < b.i ∨ a.i = b.i ∧ compareBytes a.bytes b.bytes ≤ 0):=by
  intro a b
  unfold CellD.cmp orI
  rcases cmpI_range a.k b.k with h | h | h
  ·have:=(cmpI_neg _ _).1 h; simp [h,this]
  ·have e:=(cmpI_zero _ _).1 h
   have n : ¬ a.k < b.k:=by omega
   rcases cmpI_range a.i b.i with h' | h' | h'
   ·have:=(cmpI_neg _ _).1 h'; rw [h,h']; simp [this,e]
   ·have e':=(cmpI_zero _ _).1 h'; rw [h,h']; simp [e,e']
   ·have:=(cmpI_pos _ _).1 h'
    have n1 : ¬ a.i < b.i:=by omega
    have n2 : ¬ a.i = b.i:=by omega
    rw [h,h']; simp [e,n1,n2]
  ·have:=(cmpI_pos _ _).1 h
   have n1 : ¬ a.k < b.k:=by omega
   have n2 : ¬ a.k = b.k:=by omega
   simp [h,n1,n2]
 rw [key] at *
 rcases h1 with h1 | ⟨h1,h1' | ⟨h1',h1''⟩⟩ <;> rcases h2 with h2 | ⟨h2,h2' | ⟨h2',h2''⟩⟩
 case inr.inr.inr.inr=>exact .inr ⟨by omega,.inr ⟨by omega,cb_trans _ _ _ h1'' h2''⟩⟩
 all_goals first | exact .inl (by omega) | exact .inr ⟨by omega,.inl (by omega)⟩
/-- A cell as a value. -/
def CellD.v (a : CellD) : Value:=.agg #[.int .i64 a.k,.int .i64 a.i,.string a.s]
end Go.Proofs.Ev
