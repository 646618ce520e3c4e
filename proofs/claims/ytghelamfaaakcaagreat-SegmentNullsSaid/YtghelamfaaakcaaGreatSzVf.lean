/- Cells held against each other; which cells may be. -/
import Derived.Test.YtghelamfaaakcaaGreatSzVb
set_option linter.unusedVariables false
set_option linter.unusedSimpArgs false
set_option maxRecDepth 100000
namespace Go.Proofs.YtghelamfaaakcaaGreat.Sh
open Go Go.RowKit Go.Proofs.Ev

theorem stC : Tryz.prog.underlying 31 = some (.struct (Tryz.prog.fieldsOf 31)) := by kernel_rfl
theorem egC : Tryz.prog.eqGuardType Tryz.prog.depth 31 = false := by kernel_rfl
theorem shC : Tryz.prog.stoodInHeld 31 = false := by kernel_rfl
theorem fsC : (Tryz.prog.fieldsOf 31).toList = [{ name := "Kind", type := 3, offset := 0, embedded := false, tag := "", pkgPath := "", byteOffset := 0 }, { name := "Int", type := 2, offset := 1, embedded := false, tag := "", pkgPath := "", byteOffset := 8 }, { name := "Text", type := 9, offset := 2, embedded := false, tag := "", pkgPath := "", byteOffset := 16 }] := by kernel_rfl
theorem ptC_0 (k i : Int) (s : ByteArray) : prun Tryz.prog (part 3 #[.int .i64 k, .int .i64 i, .string s] 0) = some (.int .i64 k) := by kernel_rfl
theorem ptC_1 (k i : Int) (s : ByteArray) : prun Tryz.prog (part 2 #[.int .i64 k, .int .i64 i, .string s] 1) = some (.int .i64 i) := by kernel_rfl
theorem ptC_2 (k i : Int) (s : ByteArray) : prun Tryz.prog (part 9 #[.int .i64 k, .int .i64 i, .string s] 2) = some (.string s) := by kernel_rfl
theorem eqC (d : Nat) (a b : CellD) : prun Tryz.prog (Op.equalIn (d + 2) 31 a.v b.v) = some (decide (a = b)) := by
  unfold CellD.v
  rw [prun_equal_struct stC shC, fsC]
  simp only [prunFields, ne_eq, String.reduceEq, not_false_eq_true, if_true, ptC_0, ptC_1, ptC_2, Option.bind_some, prun_equal_int u3, prun_equal_int u2, prun_equal_string u9]
  have key : (a = b) ↔ a.k = b.k ∧ a.i = b.i ∧ a.s = b.s := by
    constructor
    · rintro rfl; exact ⟨rfl, rfl, rfl⟩
    · rintro ⟨h1, h2, h3⟩; exact CellD.ext' h1 h2 (by unfold CellD.bytes; rw [h3])
  rw [beqB_dec]
  by_cases h1 : a.k = b.k
  · by_cases h2 : a.i = b.i
    · by_cases h3 : a.s = b.s
      · simp [key, h1, h2, h3]
      · simp [key, h1, h2, h3]
    · have : (a.i == b.i) = false := by simpa using h2
      simp [key, h1, h2, this]
  · have : (a.k == b.k) = false := by simpa using h1
    simp [key, h1, this]
theorem neqC (a b : CellD) {x y : Operand} : pBin Tryz.prog .neq 31 x y a.v b.v = some (.bool (!decide (a = b))) := bin_neq_agg rfl rfl egC (eqC 9998 a b)
def cellZ : CellD := ⟨0, 0, .empty⟩
theorem bdC0 : pBuild Tryz.prog 31 #[] = some (CellD.v cellZ) := by kernel_rfl
end Go.Proofs.YtghelamfaaakcaaGreat.Sh
