/- Cells in order: kinds, numbers, texts; it is a total order. No program in sight. -/
import Derived.Test.YtjmfokglckaneaaEvB
set_option linter.unusedVariables false
set_option linter.unusedSimpArgs false
namespace Go.Proofs.Ev
open Go Go.Lib

theorem cb_zero (a b : List UInt8) : compareBytes a b = 0 ↔ a = b := by
  induction a generalizing b with
  | nil => cases b <;> simp [compareBytes]
  | cons x a ih => cases b with
    | nil => simp [compareBytes]
    | cons y b =>
      simp only [compareBytes]
      by_cases h1 : x < y
      · have : x ≠ y := by rintro rfl; rw [UInt8.lt_iff_toNat_lt] at h1; omega
        simp [h1, this]
      · by_cases h2 : y < x
        · have : x ≠ y := by rintro rfl; rw [UInt8.lt_iff_toNat_lt] at h2; omega
          simp [h1, h2, this]
        · have : x = y := by rw [UInt8.lt_iff_toNat_lt] at h1 h2; exact UInt8.toNat_inj.1 (by omega)
          simp [h1, h2, this, ih b]
def cmpI (a b : Int) : Int := if a < b then -1 else if b < a then 1 else 0
theorem cmpI_range (a b : Int) : cmpI a b = -1 ∨ cmpI a b = 0 ∨ cmpI a b = 1 := by
  unfold cmpI
  split
  · simp
  · split <;> simp
theorem cmpI_zero (a b : Int) : cmpI a b = 0 ↔ a = b := by
  unfold cmpI
  by_cases h1 : a < b
  · simp [h1]; omega
  · by_cases h2 : b < a
    · simp [h1, h2]; omega
    · simp [h1, h2]; omega
structure CellD where
  k : Int
  i : Int
  s : ByteArray
  deriving DecidableEq
def CellD.bytes (a : CellD) : List UInt8 := a.s.data.toList
theorem CellD.ext' {a b : CellD} (h1 : a.k = b.k) (h2 : a.i = b.i) (h3 : a.bytes = b.bytes) : a = b := by
  obtain ⟨ak, ai, ⟨⟨al⟩⟩⟩ := a
  obtain ⟨bk, bi, ⟨⟨bl⟩⟩⟩ := b
  simp only [CellD.bytes] at *
  subst h1; subst h2; subst h3
  rfl
/-- The first that is not zero. -/
def orI (a b : Int) : Int := if a = 0 then b else a
def CellD.cmp (a b : CellD) : Int := orI (cmpI a.k b.k) (orI (cmpI a.i b.i) (compareBytes a.bytes b.bytes))
theorem CellD.cmp_zero (a b : CellD) : a.cmp b = 0 ↔ a = b := by
  constructor
  · intro h
    unfold CellD.cmp orI at h
    have h1 : cmpI a.k b.k = 0 := by
      rcases cmpI_range a.k b.k with q | q | q <;> simp [q] at h ⊢
    simp only [h1, if_true] at h
    have h2 : cmpI a.i b.i = 0 := by
      rcases cmpI_range a.i b.i with q | q | q <;> simp [q] at h ⊢
    simp only [h2, if_true] at h
    exact CellD.ext' ((cmpI_zero _ _).1 h1) ((cmpI_zero _ _).1 h2) ((cb_zero _ _).1 h)
  · rintro rfl
    unfold CellD.cmp orI
    simp [(cmpI_zero a.k a.k).2 rfl, (cmpI_zero a.i a.i).2 rfl, (cb_zero a.bytes a.bytes).2 rfl]
/-- A cell as a value. -/
def CellD.v (a : CellD) : Value := .agg #[.int .i64 a.k, .int .i64 a.i, .string a.s]
end Go.Proofs.Ev
