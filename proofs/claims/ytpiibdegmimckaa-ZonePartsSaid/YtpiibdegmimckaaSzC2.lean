/- What the functions of the zone's package come to: what an operation asks for. -/
import Derived.Test.YtpiibdegmimckaaSzC1
import Derived.Test.YtpiibdegmimckaaEv26
set_option linter.unusedVariables false
set_option linter.unusedSimpArgs false
namespace Go.Proofs.Ytpiibdegmimckaa.Sh
open Go Go.RowKit Go.Proofs.Ev Go.Lib

def soB (op o : Int) : Bool := if op = 1 then o == 0 else if op = 2 then o != 0 else if op = 3 then decide (o < 0) else if op = 4 then decide (o ≤ 0) else if op = 5 then decide (o > 0) else if op = 6 then decide (o ≥ 0) else false
theorem m32 {k : Nat} (o : Int) (h : AH) : F32 (eInv env k) k (.int .i64 o) h = some (.bool (o == 0), h) := by unfold F32; simp only [bin_eql, bnd_some]
theorem m26 {k : Nat} (o : Int) (h : AH) : F26 (eInv env k) k (.int .i64 o) h = some (.bool (o != 0), h) := by unfold F26; simp only [bin_neq, bnd_some]
theorem m33 {k : Nat} (o : Int) (h : AH) : F33 (eInv env k) k (.int .i64 o) h = some (.bool (decide (o < 0)), h) := by unfold F33; simp only [bin_lss, bnd_some]
theorem m24 {k : Nat} (o : Int) (h : AH) : F24 (eInv env k) k (.int .i64 o) h = some (.bool (decide (o ≤ 0)), h) := by unfold F24; simp only [bin_leq, bnd_some]
theorem m34 {k : Nat} (o : Int) (h : AH) : F34 (eInv env k) k (.int .i64 o) h = some (.bool (decide (o > 0)), h) := by unfold F34; simp only [bin_gtr, bnd_some]
theorem m25 {k : Nat} (o : Int) (h : AH) : F25 (eInv env k) k (.int .i64 o) h = some (.bool (decide (o ≥ 0)), h) := by unfold F25; simp only [bin_geq, bnd_some]
def fv (f : Nat) : Value := .func (.func f) #[] #[]
theorem bd54 : pBuild Try.prog 54 #[(1, (.func (.func 32) #[] #[])), (2, (.func (.func 26) #[] #[])), (3, (.func (.func 33) #[] #[])), (4, (.func (.func 24) #[] #[])), (5, (.func (.func 34) #[] #[])), (6, (.func (.func 25) #[] #[]))] =
    some (.agg #[.nilFunc, fv 32, fv 26, fv 33, fv 24, fv 34, fv 25]) := by kernel_rfl
theorem ia54 {b : Nat} {i : Nat} (hi : i < 7) : pIndexAddr Try.prog 54 (.pointer (some ⟨b, 0, none⟩)) (.int .i64 i) = some (.pointer (some ⟨b, i, none⟩)) := by
  have hu : Try.prog.underlying 54 = some (.array 7 53) := by kernel_rfl
  unfold pIndexAddr
  simp only [hu, sz53]
  rw [if_pos (by omega)]
  simp
theorem callV_fv {inv : Inv} {f : Nat} {x : Value} {h : AH} : callV inv (fv f) #[x] h = inv (.func f) #[] #[x] h := rfl
/-- 'so'. -/
theorem f27 {k : Nat} (op o : Int) (h : AH) : Tl (F27 (eInv env (k + 4)) (k + 4) (.int .i64 op) (.int .i64 o) h) fun r => r.1 = .bool (soB op o) ∧ Grow h r.2 := by
  unfold F27
  simp only [bd54, bnd_some]
  refine Tl.alloc (Sta.init h) ze54 rfl fun b1 h1 S1 _ => ?_
  refine Tl.store S1 0 rfl sz54 rfl rfl (by decide) fun h2 S2 => ?_
  have M := S2.mem.at_ (i := 0) rfl
  have q1 : h2.cell b1 1 = some (fv 32) := (cell_of M).trans rfl
  have q2 : h2.cell b1 2 = some (fv 26) := (cell_of M).trans rfl
  have q3 : h2.cell b1 3 = some (fv 33) := (cell_of M).trans rfl
  have q4 : h2.cell b1 4 = some (fv 24) := (cell_of M).trans rfl
  have q5 : h2.cell b1 5 = some (fv 34) := (cell_of M).trans rfl
  have q6 : h2.cell b1 6 = some (fv 25) := (cell_of M).trans rfl
  have g := S2.done
  simp only [bin_geq, bin_lss, bnd_some]
  by_cases h1 : op ≥ 1
  · by_cases h7 : op < 7
    · simp only [bin_lss, h1, h7, decide_true, gd_tt, bnd_some, lt_some, pick_t]
      obtain ⟨n, rfl⟩ := Int.eq_ofNat_of_zero_le (show 0 ≤ op by omega)
      have hn : n < 7 := by omega
      have : n = 1 ∨ n = 2 ∨ n = 3 ∨ n = 4 ∨ n = 5 ∨ n = 6 := by omega
      simp only [ia54 hn, lt_some, bnd_some, ld53]
      rcases this with rfl | rfl | rfl | rfl | rfl | rfl
      · simp only [q1, lt_some, bnd_some, callV_fv, F32_call, m32, pick_t]; exact ⟨_, rfl, rfl, g⟩
      · simp only [q2, lt_some, bnd_some, callV_fv, F26_call, m26, pick_t]; exact ⟨_, rfl, rfl, g⟩
      · simp only [q3, lt_some, bnd_some, callV_fv, F33_call, m33, pick_t]; exact ⟨_, rfl, rfl, g⟩
      · simp only [q4, lt_some, bnd_some, callV_fv, F24_call, m24, pick_t]; exact ⟨_, rfl, rfl, g⟩
      · simp only [q5, lt_some, bnd_some, callV_fv, F34_call, m34, pick_t]; exact ⟨_, rfl, rfl, g⟩
      · simp only [q6, lt_some, bnd_some, callV_fv, F25_call, m25, pick_t]; exact ⟨_, rfl, rfl, g⟩
    · simp only [bin_lss, h1, h7, decide_true, decide_false, gd_tt, gd_ft, bnd_some, lt_some, pick_t, pick_f]
      refine ⟨_, rfl, ?_, g⟩
      have : soB op o = false := by unfold soB; rw [if_neg (by omega), if_neg (by omega), if_neg (by omega), if_neg (by omega), if_neg (by omega), if_neg (by omega)]
      simp only [this]
  · simp only [h1, decide_false, gd_ft, bnd_some, lt_some, pick_f, gd_sk]
    refine ⟨_, rfl, ?_, g⟩
    have : soB op o = false := by unfold soB; rw [if_neg (by omega), if_neg (by omega), if_neg (by omega), if_neg (by omega), if_neg (by omega), if_neg (by omega)]
    simp only [this]
/-- 'Is'. -/
def isB (op : Int) (a b : CellD) : Bool := decide (a.k = b.k) && (decide (a.k ≠ 0) && soB op (a.cmp b))
theorem f16 {k : Nat} (op : Int) (a b : CellD) (h : AH) : Tl (F16 (eInv env (k + 12)) (k + 12) (.int .i64 op) a.v b.v h) fun r => r.1 = .bool (isB op a b) ∧ Grow h r.2 := by
  unfold F16
  refine Tl.box (Sta.init h) rfl (by rw [sz26]; rfl) fun b1 h1 S1 _ => ?_
  refine Tl.box S1 rfl (by rw [sz26]; rfl) fun b2 h2 S2 _ => ?_
  have M1 := S2.mem.at_ (i := 1) rfl
  have M2 := S2.mem.at_ (i := 0) rfl
  have a0 : h2.cell b1 0 = some (.int .i64 a.k) := (cell_of M1).trans rfl
  have c0 : h2.cell b2 0 = some (.int .i64 b.k) := (cell_of M2).trans rfl
  have ra : h2.row b1 0 3 = some [.int .i64 a.k, .int .i64 a.i, .string a.s] := (row_of M1).trans rfl
  have rb : h2.row b2 0 3 = some [.int .i64 b.k, .int .i64 b.i, .string b.s] := (row_of M2).trans rfl
  have g := S2.done
  simp only [fa26_0, bnd_some, ld3, Nat.zero_add, a0, c0, bin_eql]
  by_cases h1 : a.k = b.k
  · have e1 : (a.k == b.k) = true := by simpa using h1
    simp only [e1, gd_tt, lt_some, bnd_some, ld3, a0, bin_neq, pick_t]
    by_cases h2' : a.k = 0
    · have e2 : (a.k != 0) = false := by simpa using h2'
      simp only [e2, gd_ft, lt_some, bnd_some, pick_f]
      refine ⟨_, rfl, ?_, g⟩
      simp [isB, h2']
    · have e2 : (a.k != 0) = true := by simpa using h2'
      simp only [e2, gd_tt, lt_some, bnd_some, ld26, ra, rb, Option.map_some, F15_call, F27_call]
      refine Tl.call S2 (f15 (k := k + 1) a b h2) fun h3 S3 _ => ?_
      refine Tl.call S3 (f27 (k := k + 7) op (a.cmp b) h3) fun h4 S4 _ => ?_
      simp only [pick_t, bnd_some]
      refine ⟨_, rfl, ?_, S4.done⟩
      simp [isB, h1, h2']
      intro _
      rw [← h1]
      exact h2'
  · have e1 : (a.k == b.k) = false := by simpa using h1
    simp only [e1, gd_ft, lt_some, bnd_some, pick_f]
    refine ⟨_, rfl, ?_, g⟩
    simp [isB, h1]
end Go.Proofs.Ytpiibdegmimckaa.Sh
