/- Cells held against each other; which cells may be. -/
import Derived.Test.YtjmfokglckaneaaSzVb
set_option linter.unusedVariables false
set_option linter.unusedSimpArgs false
set_option maxRecDepth 100000
namespace Go.Proofs.Ytjmfokglckaneaa.Sh
open Go Go.RowKit Go.Proofs.Ev
theorem base_Vf : type_of% (And.intro @ld3 (And.intro @ld2 (And.intro @ld9 (And.intro @ld45 (And.intro @fa45_0 (And.intro @fa45_1 (And.intro @fa45_2 (@Nat.add_zero)))))))) := And.intro @ld3 (And.intro @ld2 (And.intro @ld9 (And.intro @ld45 (And.intro @fa45_0 (And.intro @fa45_1 (And.intro @fa45_2 (@Nat.add_zero)))))))
theorem stC : Try.prog.underlying 45 = some (.struct (Try.prog.fieldsOf 45)) := by kernel_rfl
theorem egC : Try.prog.eqGuardType Try.prog.depth 45 = false := by kernel_rfl
theorem shC : Try.prog.stoodInHeld 45 = false := by kernel_rfl
theorem fsC : (Try.prog.fieldsOf 45).toList = [{ name := "Kind", type := 3, offset := 0, embedded := false, tag := "", pkgPath := "", byteOffset := 0 }, { name := "Int", type := 2, offset := 1, embedded := false, tag := "", pkgPath := "", byteOffset := 8 }, { name := "Text", type := 9, offset := 2, embedded := false, tag := "", pkgPath := "", byteOffset := 16 }] := by kernel_rfl
theorem ptC_0 (k i : Int) (s : ByteArray) : prun Try.prog (part 3 #[.int .i64 k, .int .i64 i, .string s] 0) = some (.int .i64 k) := by kernel_rfl
theorem ptC_1 (k i : Int) (s : ByteArray) : prun Try.prog (part 2 #[.int .i64 k, .int .i64 i, .string s] 1) = some (.int .i64 i) := by kernel_rfl
theorem ptC_2 (k i : Int) (s : ByteArray) : prun Try.prog (part 9 #[.int .i64 k, .int .i64 i, .string s] 2) = some (.string s) := by kernel_rfl
theorem eqC (d : Nat) (a b : CellD) : prun Try.prog (Op.equalIn (d + 2) 45 a.v b.v) = some (decide (a = b)) := by
  unfold CellD.v
  rw [prun_equal_struct stC shC, fsC]
  simp only [prunFields, ne_eq, String.reduceEq, not_false_eq_true, if_true, ptC_0, ptC_1, ptC_2, Option.bind_some, prun_equal_int u3, prun_equal_int u2, prun_equal_string u9]
  have key : (a = b) ↔ a.k = b.k ∧ a.i = b.i ∧ a.s = b.s := by
    constructor
    · rintro rfl; exact ⟨rfl, rfl, rfl⟩
    · rintro ⟨h1, h2, h3⟩; exact CellD.ext' h1 h2 (by unfold CellD.bytes; rw [h3])
  rw [beqB_dec]
  by_cases h1 : a.k = b.k
  · by_cases h2 : a.i = b.i
    · by_cases h3 : a.s = b.s
      · simp [key, h1, h2, h3]
      · simp [key, h1, h2, h3]
    · have : (a.i == b.i) = false := by simpa using h2
      simp [key, h1, h2, this]
  · have : (a.k == b.k) = false := by simpa using h1
    simp [key, h1, this]
theorem neqC (a b : CellD) {x y : Operand} : pBin Try.prog .neq 45 x y a.v b.v = some (.bool (!decide (a = b))) := bin_neq_agg rfl rfl egC (eqC 9998 a b)
def cellZ : CellD := ⟨0, 0, .empty⟩
theorem bdC0 : pBuild Try.prog 45 #[] = some (CellD.v cellZ) := by kernel_rfl
theorem size0 {s : ByteArray} : s = .empty ↔ s.size = 0 := by
  constructor
  · rintro rfl; rfl
  · intro h
    obtain ⟨a⟩ := s
    have : a = #[] := Array.eq_empty_of_size_eq_zero h
    rw [this]; rfl
theorem str0 {x y : Operand} {s : ByteArray} : pBin Try.prog .eql 9 x y (.string s) (.string { data := #[] }) = some (.bool (decide (s.size = 0))) := by
  rw [bin_eql_string]
  congr 2
  exact decide_eq_decide.2 size0
/-- Which cells may be. -/
def cellOk (c : CellD) : Bool :=
  if c.k = 0 then decide (c.i = 0) && decide (c.s.size = 0) else if c.k = 1 then decide (c.s.size = 0) else if c.k = 2 then decide (c.s.size = 0) && (decide (c.i = 0) || decide (c.i = 1))
  else if c.k = 3 then decide (c.i = 0) && decide (c.s.size ≤ 256) else false
theorem f68c {k : Nat} (c : CellD) (h : AH) : Tl (eInv env (k + 1) (.func 68) #[] #[c.v] h) fun r => r.1 = .int .i64 (if cellOk c then 0 else 160) ∧ Grow h r.2 := by
  rw [F68_call]
  unfold F68
  refine Tl.box' (Stt.init h) rfl (by rw [sz45]; rfl) fun b1 h1 S1 _ => ?_
  have c0 := S1.cell (o := 0) (v := .int .i64 c.k) 0 rfl rfl
  have c1 := S1.cell (o := 1) (v := .int .i64 c.i) 0 rfl rfl
  have c2 := S1.cell (o := 2) (v := .string c.s) 0 rfl rfl
  have hs : ∀ h' : AH, pLen Try.prog #[9] (.string c.s) h' = some (.int .i64 c.s.size) := fun h' => len_string u9
  unfold F68_rlrr
  unfold cellOk
  by_cases k0 : c.k = 0
  · rw [if_pos k0]
    by_cases i0 : c.i = 0 <;> by_cases s0 : c.s.size = 0 <;> simp only [i0, s0, decide_true, decide_false, Bool.and_true, Bool.true_and, Bool.and_false, Bool.false_and, if_true, if_false, Bool.false_eq_true]
    all_goals
      repeat (first | (with_reducible apply Tl.val; focus (simp (disch := omega) only [coreA, Int.reduceBEq, base_Vf, c0, c1, c2, str0, s0] <;> with_reducible rfl)) | (with_reducible first | refine Tl.brT ?_ | refine Tl.brF ?_ | refine Tl.gd_on ?_ | refine Tl.gd3_on ?_) | ((with_reducible first | apply Tl.brC | apply Tl.gdC | apply Tl.gd3C); focus (simp (disch := omega) only [coreA, Int.reduceBEq, base_Vf, c0, c1, c2, str0, s0] <;> with_reducible rfl)))
      exact ⟨_, rfl, rfl, S1.grow⟩
  rw [if_neg k0]
  by_cases k1 : c.k = 1
  · rw [if_pos k1]
    by_cases s0 : c.s.size = 0 <;> simp only [s0, decide_true, decide_false, Bool.and_true, Bool.true_and, Bool.and_false, Bool.false_and, if_true, if_false, Bool.false_eq_true]
    all_goals
      repeat (first | (with_reducible apply Tl.val; focus (simp (disch := omega) only [coreA, Int.reduceBEq, base_Vf, c0, c1, c2, str0, s0] <;> with_reducible rfl)) | (with_reducible first | refine Tl.brT ?_ | refine Tl.brF ?_ | refine Tl.gd_on ?_ | refine Tl.gd3_on ?_) | ((with_reducible first | apply Tl.brC | apply Tl.gdC | apply Tl.gd3C); focus (simp (disch := omega) only [coreA, Int.reduceBEq, base_Vf, c0, c1, c2, str0, s0] <;> with_reducible rfl)))
      exact ⟨_, rfl, rfl, S1.grow⟩
  rw [if_neg k1]
  by_cases k2 : c.k = 2
  · rw [if_pos k2]
    by_cases s0 : c.s.size = 0
    · by_cases i0 : c.i = 0
      · simp only [s0, i0, decide_true, decide_false, Bool.and_true, Bool.true_and, Bool.and_false, Bool.false_and, Bool.true_or, if_true, if_false, Bool.false_eq_true]
        repeat (first | (with_reducible apply Tl.val; focus (simp (disch := omega) only [coreA, Int.reduceBEq, base_Vf, c0, c1, c2, str0, s0] <;> with_reducible rfl)) | (with_reducible first | refine Tl.brT ?_ | refine Tl.brF ?_ | refine Tl.gd_on ?_ | refine Tl.gd3_on ?_) | ((with_reducible first | apply Tl.brC | apply Tl.gdC | apply Tl.gd3C); focus (simp (disch := omega) only [coreA, Int.reduceBEq, base_Vf, c0, c1, c2, str0, s0] <;> with_reducible rfl)))
        exact ⟨_, rfl, rfl, S1.grow⟩
      · by_cases i1 : c.i = 1
        · simp only [s0, i0, i1, decide_true, decide_false, Bool.and_true, Bool.true_and, Bool.and_false, Bool.false_and, Bool.or_true, if_true, if_false, Bool.false_eq_true]
          repeat (first | (with_reducible apply Tl.val; focus (simp (disch := omega) only [coreA, Int.reduceBEq, base_Vf, c0, c1, c2, str0, s0] <;> with_reducible rfl)) | (with_reducible first | refine Tl.brT ?_ | refine Tl.brF ?_ | refine Tl.gd_on ?_ | refine Tl.gd3_on ?_) | ((with_reducible first | apply Tl.brC | apply Tl.gdC | apply Tl.gd3C); focus (simp (disch := omega) only [coreA, Int.reduceBEq, base_Vf, c0, c1, c2, str0, s0] <;> with_reducible rfl)))
          exact ⟨_, rfl, rfl, S1.grow⟩
        · simp only [s0, i0, i1, decide_true, decide_false, Bool.and_true, Bool.true_and, Bool.and_false, Bool.false_and, Bool.or_false, if_true, if_false, Bool.false_eq_true]
          repeat (first | (with_reducible apply Tl.val; focus (simp (disch := omega) only [coreA, Int.reduceBEq, base_Vf, c0, c1, c2, str0, s0] <;> with_reducible rfl)) | (with_reducible first | refine Tl.brT ?_ | refine Tl.brF ?_ | refine Tl.gd_on ?_ | refine Tl.gd3_on ?_) | ((with_reducible first | apply Tl.brC | apply Tl.gdC | apply Tl.gd3C); focus (simp (disch := omega) only [coreA, Int.reduceBEq, base_Vf, c0, c1, c2, str0, s0] <;> with_reducible rfl)))
          exact ⟨_, rfl, rfl, S1.grow⟩
    · simp only [s0, decide_true, decide_false, Bool.and_true, Bool.true_and, Bool.and_false, Bool.false_and, if_true, if_false, Bool.false_eq_true]
      repeat (first | (with_reducible apply Tl.val; focus (simp (disch := omega) only [coreA, Int.reduceBEq, base_Vf, c0, c1, c2, str0, s0] <;> with_reducible rfl)) | (with_reducible first | refine Tl.brT ?_ | refine Tl.brF ?_ | refine Tl.gd_on ?_ | refine Tl.gd3_on ?_) | ((with_reducible first | apply Tl.brC | apply Tl.gdC | apply Tl.gd3C); focus (simp (disch := omega) only [coreA, Int.reduceBEq, base_Vf, c0, c1, c2, str0, s0] <;> with_reducible rfl)))
      exact ⟨_, rfl, rfl, S1.grow⟩
  rw [if_neg k2]
  by_cases k3 : c.k = 3
  · rw [if_pos k3]
    by_cases i0 : c.i = 0 <;> by_cases s0 : c.s.size ≤ 256 <;> simp only [i0, s0, decide_true, decide_false, Bool.and_true, Bool.true_and, Bool.and_false, Bool.false_and, if_true, if_false, Bool.false_eq_true]
    all_goals
      repeat (first | (with_reducible apply Tl.val; focus (simp (disch := omega) only [coreA, Int.reduceBEq, base_Vf, c0, c1, c2, hs] <;> with_reducible rfl)) | (with_reducible first | refine Tl.brT ?_ | refine Tl.brF ?_ | refine Tl.gd_on ?_ | refine Tl.gd3_on ?_) | ((with_reducible first | apply Tl.brC | apply Tl.gdC | apply Tl.gd3C); focus (simp (disch := omega) only [coreA, Int.reduceBEq, base_Vf, c0, c1, c2, hs] <;> with_reducible rfl)))
      exact ⟨_, rfl, rfl, S1.grow⟩
  rw [if_neg k3]
  simp only [if_false, Bool.false_eq_true]
  repeat (first | (with_reducible apply Tl.val; focus (simp (disch := omega) only [coreA, Int.reduceBEq, base_Vf, c0, c1, c2] <;> with_reducible rfl)) | (with_reducible first | refine Tl.brT ?_ | refine Tl.brF ?_ | refine Tl.gd_on ?_ | refine Tl.gd3_on ?_) | ((with_reducible first | apply Tl.brC | apply Tl.gdC | apply Tl.gd3C); focus (simp (disch := omega) only [coreA, Int.reduceBEq, base_Vf, c0, c1, c2] <;> with_reducible rfl)))
  exact ⟨_, rfl, rfl, S1.grow⟩
/-! ### 'x &^ 1' -/
end Go.Proofs.Ytjmfokglckaneaa.Sh
