/- What the functions of the zone's package come to: orders. -/
import Derived.Test.YtpiibdegmimckaaSz2
import Derived.Test.YtpiibdegmimckaaSzT
import Derived.Test.YtpiibdegmimckaaOrdC
import Derived.KernelRfl
set_option linter.unusedVariables false
set_option linter.unusedSimpArgs false
namespace Go.Proofs.Ytpiibdegmimckaa.Sh
open Go Go.RowKit Go.Proofs.Ev Go.Lib

theorem f35 {k : Nat} (a : Int) (h : AH) : F35 (eInv env k) k (.int .i64 a) h = some (.bool false, h) := by
  unfold F35
  simp only [bin_neq, bnd_some, bne_self_eq_false]
theorem f36 {k : Nat} (a : Int) (h : AH) : F36 (eInv env k) k (.int .i64 a) h = some (.bool false, h) := by
  unfold F36
  simp only [bin_neq, bnd_some, bne_self_eq_false]
theorem f29 {k : Nat} (a b : Int) (h : AH) : F29 (eInv env (k + 1)) (k + 1) (.int .i64 a) (.int .i64 b) h = some (goInt (cmpI a b), h) := by
  unfold F29
  simp only [F35_call, f35, bnd_some, brV_false, bin_lss, bin_gtr, brV_bool]
  unfold cmpI
  by_cases h1 : a < b
  · simp [h1, goInt]
  · by_cases h2 : b < a <;> simp [h1, h2, goInt]
theorem f30 {k : Nat} (a b : Int) (h : AH) : F30 (eInv env (k + 1)) (k + 1) (.int .i64 a) (.int .i64 b) h = some (goInt (cmpI a b), h) := by
  unfold F30
  simp only [F36_call, f36, bnd_some, brV_false, bin_lss, bin_gtr, brV_bool]
  unfold cmpI
  by_cases h1 : a < b
  · simp [h1, goInt]
  · by_cases h2 : b < a <;> simp [h1, h2, goInt]
theorem f38 {k : Nat} (a b : ByteArray) (h : AH) : eInv env (k + 1) (.func 38) #[] #[.string a, .string b] h = some (goInt (compareBytes a.data.toList b.data.toList), h) := by
  rw [inv_ext (g := cmpX) rfl]
  unfold cmpX
  simp [cmp_eq]
theorem f31 {k : Nat} (a b : ByteArray) (h : AH) : F31 (eInv env (k + 2)) (k + 2) (.string a) (.string b) h = some (goInt (compareBytes a.data.toList b.data.toList), h) := by
  unfold F31
  simp only [F37_call]
  unfold F37
  simp only [f38, bnd_some]
/-- 'cmp.Or' of three. -/
theorem f28 {k : Nat} (a b c : Int) {h : AH} {bl : Nat} {e : TypeId} (hg : h.get bl = some (.cells [goInt a, goInt b, goInt c] e true)) :
    F28 (eInv env (k + 4)) (k + 4) (.slice (some ⟨bl, 0, none⟩) 3 3) h = some (goInt (orI a (orI b c)), h) := by
  unfold F28
  simp only [len_slice u55, bnd_some]
  have r0 : h.cell bl 0 = some (goInt a) := by rw [cell_of hg]; rfl
  have r1 : h.cell bl 1 = some (goInt b) := by rw [cell_of hg]; rfl
  have r2 : h.cell bl 2 = some (goInt c) := by rw [cell_of hg]; rfl
  have i0 : pIndexAddr Try.prog 55 (.slice (some ⟨bl, 0, none⟩) 3 3) (.int .i64 0) = some (.pointer (some ⟨bl, 0, none⟩)) := indexAddr_slice u55 sz3 (by decide) (by decide)
  have i1 : pIndexAddr Try.prog 55 (.slice (some ⟨bl, 0, none⟩) 3 3) (.int .i64 1) = some (.pointer (some ⟨bl, 1, none⟩)) := indexAddr_slice u55 sz3 (by decide) (by decide)
  have i2 : pIndexAddr Try.prog 55 (.slice (some ⟨bl, 0, none⟩) 3 3) (.int .i64 2) = some (.pointer (some ⟨bl, 2, none⟩)) := indexAddr_slice u55 sz3 (by decide) (by decide)
  have w1 : IntKind.i64.wrap (0 + 1) = 1 := by decide
  have w2 : IntKind.i64.wrap (1 + 1) = 2 := by decide
  have w3 : IntKind.i64.wrap (2 + 1) = 3 := by decide
  unfold orI
  simp only [F28_lrlrr, goInt, bin_lss, bnd_some, brV_bool, i0, i1, i2, ld3, r0, r1, r2, bin_neq, bin_add, w1, w2, w3]
  have ne : ∀ z : Int, ¬z = 0 → (z != 0) = true := fun z hz => by simpa using hz
  by_cases ha : a = 0
  · by_cases hb : b = 0
    · by_cases hc : c = 0
      · simp [ha, hb, hc]
      · simp [ha, hb, hc, ne c hc]
    · simp [ha, hb, ne b hb]
  · simp [ha, ne a ha]
theorem bs55 (a b c : Int) (h : AH) : pBuildSlice Try.prog 55 3 #[(0, goInt a), (1, goInt b), (2, goInt c)] h = some (.slice (some ⟨h.n, 0, none⟩) 3 3, h.alloc (.cells [goInt a, goInt b, goInt c] 3 true)) := by kernel_rfl
/-- 'Compare'. -/
theorem f15 {k : Nat} (a b : CellD) (h : AH) : Tl (F15 (eInv env (k + 10)) (k + 10) a.v b.v h) fun r => r.1 = goInt (a.cmp b) ∧ Grow h r.2 := by
  unfold F15
  refine Tl.box (Sta.init h) rfl (by rw [sz26]; rfl) fun b1 h1 S1 _ => ?_
  refine Tl.box S1 rfl (by rw [sz26]; rfl) fun b2 h2 S2 _ => ?_
  have M1 : h2.get b1 = _ := S2.mem.at_ (i := 1) rfl
  have M2 : h2.get b2 = _ := S2.mem.at_ (i := 0) rfl
  have a0 := cell_of (o := 0) M1
  have a1 := cell_of (o := 1) M1
  have a2 := cell_of (o := 2) M1
  have c0 := cell_of (o := 0) M2
  have c1 := cell_of (o := 1) M2
  have c2 := cell_of (o := 2) M2
  simp only [CellD.v, Value.cells, List.getElem?_cons_zero, List.getElem?_cons_succ] at a0 a1 a2 c0 c1 c2
  simp only [fa26_0, fa26_1, fa26_2, bnd_some, ld3, ld2, ld9, Nat.zero_add, a0, a1, a2, c0, c1, c2, F29_call, F30_call, F31_call, f29, f30, f31]
  simp only [bs55, bnd_some, F28_call, f28 _ _ _ (AH.get_alloc_new _ _), sameO_some, sameV_int, sameV_string, Bool.and_self, Bool.not_true, Bool.or_true, Bool.true_and, Bool.false_or, chkK_t]
  exact ⟨_, rfl, rfl, (S2.done).trans (Grow.alloc _ _)⟩
end Go.Proofs.Ytpiibdegmimckaa.Sh
