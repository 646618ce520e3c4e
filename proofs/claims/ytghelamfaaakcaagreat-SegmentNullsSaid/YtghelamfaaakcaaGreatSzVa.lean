/- What 'value.Compare' comes to: cells are ordered. -/
import Derived.Test.YtghelamfaaakcaaGreatSzF
import Derived.Test.YtghelamfaaakcaaGreatSzT
import Derived.Test.YtghelamfaaakcaaGreatOrdC
import Derived.KernelRfl
set_option linter.unusedVariables false
set_option linter.unusedSimpArgs false
set_option maxRecDepth 100000
namespace Go.Proofs.YtghelamfaaakcaaGreat.Sh
open Go Go.RowKit Go.Proofs.Ev Go.Lib

theorem f150e {k : Nat} (a : Int) (h : AH) : eInv env (k + 1) (.func 150) #[] #[.int .i64 a] h = some (.bool false, h) := by
  rw [F150_call]
  unfold F150
  simp only [bin_neq, bnd_some, bne_self_eq_false]
theorem f159e {k : Nat} (a : Int) (h : AH) : eInv env (k + 1) (.func 159) #[] #[.int .i64 a] h = some (.bool false, h) := by
  rw [F159_call]
  unfold F159
  simp only [bin_neq, bnd_some, bne_self_eq_false]
theorem f124e {k : Nat} (a b : Int) (h : AH) : eInv env (k + 2) (.func 124) #[] #[.int .i64 a, .int .i64 b] h = some (.int .i64 (cmpI a b), h) := by
  rw [F124_call]
  unfold F124
  simp only [f150e, bnd_some, brV_false, bin_lss, bin_gtr, brV_bool]
  unfold cmpI
  by_cases h1 : a < b
  · simp [h1, goInt]
  · by_cases h2 : b < a <;> simp [h1, h2, goInt]
theorem f136e {k : Nat} (a b : Int) (h : AH) : eInv env (k + 2) (.func 136) #[] #[.int .i64 a, .int .i64 b] h = some (.int .i64 (cmpI a b), h) := by
  rw [F136_call]
  unfold F136
  simp only [f159e, bnd_some, brV_false, bin_lss, bin_gtr, brV_bool]
  unfold cmpI
  by_cases h1 : a < b
  · simp [h1, goInt]
  · by_cases h2 : b < a <;> simp [h1, h2, goInt]
theorem f174e {k : Nat} (a b : ByteArray) (h : AH) : eInv env (k + 1) (.func 174) #[] #[.string a, .string b] h = some (.int .i64 (compareBytes a.data.toList b.data.toList), h) := by
  rw [inv_ext (g := cmpX) rfl]
  unfold cmpX
  simp [cmp_eq, goInt]
theorem f137e {k : Nat} (a b : ByteArray) (h : AH) : eInv env (k + 3) (.func 137) #[] #[.string a, .string b] h = some (.int .i64 (compareBytes a.data.toList b.data.toList), h) := by
  rw [F137_call]
  unfold F137
  simp only [F160_call]
  unfold F160
  simp only [f174e, bnd_some]
/-- 'cmp.Or' of three. -/
theorem f135e {k : Nat} (a b c : Int) {h : AH} {bl : Nat} {e : TypeId} (hg : h.get bl = some (.cells [.int .i64 a, .int .i64 b, .int .i64 c] e true)) :
    eInv env (k + 5) (.func 135) #[] #[.slice (some ⟨bl, 0, none⟩) 3 3] h = some (.int .i64 (orI a (orI b c)), h) := by
  rw [F135_call]
  unfold F135
  simp only [len_slice u72, bnd_some]
  have r0 : h.cell bl 0 = some (.int .i64 a) := by rw [cell_of hg]; rfl
  have r1 : h.cell bl 1 = some (.int .i64 b) := by rw [cell_of hg]; rfl
  have r2 : h.cell bl 2 = some (.int .i64 c) := by rw [cell_of hg]; rfl
  have i0 : pIndexAddr Tryz.prog 72 (.slice (some ⟨bl, 0, none⟩) 3 3) (.int .i64 0) = some (.pointer (some ⟨bl, 0, none⟩)) := indexAddr_slice u72 sz3 (by decide) (by decide)
  have i1 : pIndexAddr Tryz.prog 72 (.slice (some ⟨bl, 0, none⟩) 3 3) (.int .i64 1) = some (.pointer (some ⟨bl, 1, none⟩)) := indexAddr_slice u72 sz3 (by decide) (by decide)
  have i2 : pIndexAddr Tryz.prog 72 (.slice (some ⟨bl, 0, none⟩) 3 3) (.int .i64 2) = some (.pointer (some ⟨bl, 2, none⟩)) := indexAddr_slice u72 sz3 (by decide) (by decide)
  have w1 : IntKind.i64.wrap (0 + 1) = 1 := by decide
  have w2 : IntKind.i64.wrap (1 + 1) = 2 := by decide
  have w3 : IntKind.i64.wrap (2 + 1) = 3 := by decide
  unfold orI
  simp only [F135_lrlrr, goInt, bin_lss, bnd_some, brV_bool, i0, i1, i2, ld3, r0, r1, r2, bin_neq, bin_add, w1, w2, w3]
  have ne : ∀ z : Int, ¬z = 0 → (z != 0) = true := fun z hz => by simpa using hz
  by_cases ha : a = 0
  · by_cases hb : b = 0
    · by_cases hc : c = 0
      · simp [ha, hb, hc]
      · simp [ha, hb, hc, ne c hc]
    · simp [ha, hb, ne b hb]
  · simp [ha, ne a ha]
theorem bs372 (a b c : Int) (h : AH) : pBuildSlice Tryz.prog 72 3 #[(0, .int .i64 a), (1, .int .i64 b), (2, .int .i64 c)] h = some (.slice (some ⟨h.n, 0, none⟩) 3 3, h.alloc (.cells [.int .i64 a, .int .i64 b, .int .i64 c] 3 true)) := by kernel_rfl
end Go.Proofs.YtghelamfaaakcaaGreat.Sh
