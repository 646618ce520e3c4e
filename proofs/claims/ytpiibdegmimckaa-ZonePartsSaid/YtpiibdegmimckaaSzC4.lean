/- 'ZoneOrder' comes to true at any three cells. -/
import Derived.Test.YtpiibdegmimckaaSzC3
set_option linter.unusedVariables false
set_option linter.unusedSimpArgs false
namespace Go.Proofs.Ytpiibdegmimckaa.Sh
open Go Go.RowKit Go.Proofs.Ev Go.Lib

theorem cnt6 (a b : CellD) : cntR a b 6 = if a.k = b.k ∧ a.k ≠ 0 then 3 else 0 := by
  simp only [cntR, isB]
  by_cases h1 : a.k = b.k
  · by_cases h2 : a.k = 0
    · simp [h1, h2]
      simp [← h1, h2]
    · have h2' : ¬ b.k = 0 := by rw [← h1]; exact h2
      rcases CellD.cmp_range a b with h | h | h <;> simp [h1, h2', h, soB]
  · simp [h1]
theorem cnt6b (a b : CellD) : cntR a b 6 = bif (a.k == b.k) && (a.k != 0) then 3 else 0 := by
  rw [cnt6]
  by_cases h1 : a.k = b.k
  · by_cases h2 : a.k = 0
    · have : (a.k != 0) = false := by simpa using h2
      rw [this]; simp [h2]
    · have : (a.k != 0) = true := by simpa using h2
      rw [this, if_pos ⟨h1, h2⟩]; simp [h1]
  · have : (a.k == b.k) = false := by simpa using h1
    rw [this]; simp [h1]
theorem sameC (a : CellD) : sameV a.v a.v = true := by
  simp [CellD.v, sameV, sameList, same0, beqB]
theorem f15c {k : Nat} (a b : CellD) (h : AH) : Tl (eInv env (k + 11) (.func 15) #[] #[a.v, b.v] h) fun r => r.1 = goInt (a.cmp b) ∧ Grow h r.2 := by
  rw [F15_call]; exact f15 a b h
theorem f16c {k : Nat} (op : Int) (a b : CellD) (h : AH) : Tl (eInv env (k + 13) (.func 16) #[] #[.int .i64 op, a.v, b.v] h) fun r => r.1 = .bool (isB op a b) ∧ Grow h r.2 := by
  rw [F16_call]; exact f16 op a b h
theorem f5 {k : Nat} (a b c : CellD) (h : AH) : Tl (F5 (eInv env (k + 20)) (k + 20) a.v b.v c.v h) fun r => r.1 = .bool true := by
  unfold F5
  refine Tl.box (Sta.init h) rfl (by rw [sz26]; rfl) fun b1 h1 S1 _ => ?_
  refine Tl.box S1 rfl (by rw [sz26]; rfl) fun b2 h2 S2 _ => ?_
  refine Tl.box S2 rfl (by rw [sz26]; rfl) fun b3 h3 S3 _ => ?_
  have S3 : Sta h.n h h3 [cb b3 c, cb b2 b, cb b1 a] := S3
  have ra3 := row_at (i := 2) S3 rfl
  have rb3 := row_at (i := 1) S3 rfl
  have rc3 := row_at (i := 0) S3 rfl
  repeat (with_reducible apply Tl.val; focus (simp only [bnd_some, bin_add, bin_sub, bin_mul, bin_lss, bin_leq, bin_gtr, bin_geq, bin_eql, bin_neq, un_not, un_neg, goInt, gd_tt, gd_ff, gd_tf, gd_ft, gd_sk, gd3_tt, gd3_ff, gd3_tf, gd3_ft, gd3_sk, Option.map_some, lt_some, pick_t, pick_f, Nat.zero_add, Bool.not_true, Bool.not_false, Bool.true_and, Bool.false_and, Bool.and_true, Bool.and_false, cond_true, cond_false, beq_self_eq_true, Int.reduceBEq, decide_true, decide_false, ld2, ld3, ld9, ld26, ld28, fa26_0, fa26_1, fa26_2, aggV, eql26, neq26, bin_eql_bool u4, lives_call] <;> with_reducible rfl))
  with_reducible refine Tl.brF ?_
  repeat (with_reducible apply Tl.val; focus (simp only [bnd_some, bin_add, bin_sub, bin_mul, bin_lss, bin_leq, bin_gtr, bin_geq, bin_eql, bin_neq, un_not, un_neg, goInt, gd_tt, gd_ff, gd_tf, gd_ft, gd_sk, gd3_tt, gd3_ff, gd3_tf, gd3_ft, gd3_sk, Option.map_some, lt_some, pick_t, pick_f, Nat.zero_add, Bool.not_true, Bool.not_false, Bool.true_and, Bool.false_and, Bool.and_true, Bool.and_false, cond_true, cond_false, beq_self_eq_true, Int.reduceBEq, decide_true, decide_false, ld2, ld3, ld9, ld26, ld28, fa26_0, fa26_1, fa26_2, aggV, eql26, neq26, bin_eql_bool u4, ra3, rb3, rc3] <;> with_reducible rfl))
  with_reducible refine Tl.call S3 (f15c (k := k + 9) a b h3) fun h4 S4 _ => ?_
  have ra4 := row_at (i := 2) S4 rfl
  have rb4 := row_at (i := 1) S4 rfl
  have rc4 := row_at (i := 0) S4 rfl
  repeat (with_reducible apply Tl.val; focus (simp only [bnd_some, bin_add, bin_sub, bin_mul, bin_lss, bin_leq, bin_gtr, bin_geq, bin_eql, bin_neq, un_not, un_neg, goInt, gd_tt, gd_ff, gd_tf, gd_ft, gd_sk, gd3_tt, gd3_ff, gd3_tf, gd3_ft, gd3_sk, Option.map_some, lt_some, pick_t, pick_f, Nat.zero_add, Bool.not_true, Bool.not_false, Bool.true_and, Bool.false_and, Bool.and_true, Bool.and_false, cond_true, cond_false, beq_self_eq_true, Int.reduceBEq, decide_true, decide_false, ld2, ld3, ld9, ld26, ld28, fa26_0, fa26_1, fa26_2, aggV, eql26, neq26, bin_eql_bool u4, ra4, rb4, rc4] <;> with_reducible rfl))
  with_reducible refine Tl.call S4 (f15c (k := k + 9) b c h4) fun h5 S5 _ => ?_
  have ra5 := row_at (i := 2) S5 rfl
  have rb5 := row_at (i := 1) S5 rfl
  have rc5 := row_at (i := 0) S5 rfl
  repeat (with_reducible apply Tl.val; focus (simp only [bnd_some, bin_add, bin_sub, bin_mul, bin_lss, bin_leq, bin_gtr, bin_geq, bin_eql, bin_neq, un_not, un_neg, goInt, gd_tt, gd_ff, gd_tf, gd_ft, gd_sk, gd3_tt, gd3_ff, gd3_tf, gd3_ft, gd3_sk, Option.map_some, lt_some, pick_t, pick_f, Nat.zero_add, Bool.not_true, Bool.not_false, Bool.true_and, Bool.false_and, Bool.and_true, Bool.and_false, cond_true, cond_false, beq_self_eq_true, Int.reduceBEq, decide_true, decide_false, ld2, ld3, ld9, ld26, ld28, fa26_0, fa26_1, fa26_2, aggV, eql26, neq26, bin_eql_bool u4, ra5, rb5, rc5] <;> with_reducible rfl))
  with_reducible refine Tl.call S5 (f15c (k := k + 9) a c h5) fun h6 S6 _ => ?_
  have ra6 := row_at (i := 2) S6 rfl
  have rb6 := row_at (i := 1) S6 rfl
  have rc6 := row_at (i := 0) S6 rfl
  with_reducible refine Tl.chk ?_ ?_
  · simp only [ld26, ra3, rb3, rc3, ra4, rb4, rc4, ra5, rb5, rc5, ra6, rb6, rc6, Option.map_some, aggV, bnd_some, sameO_some, sameC, Bool.and_self, Bool.not_true, Bool.or_true, Bool.true_and, Bool.false_or]
  refine loop5 (n := 0) 6 (by omega) (by omega) (by omega) (by omega) S6 fun h7 S7 => ?_
  rw [cnt6b, Int.zero_add]
  have hr := CellD.cmp_range a b
  have hz := CellD.cmp_zero a b
  have ha := CellD.cmp_anti a b
  have ka7 := kind_at (i := 2) S7 rfl
  have kb7 := kind_at (i := 1) S7 rfl
  have ra7 := row_at (i := 2) S7 rfl
  have rb7 := row_at (i := 1) S7 rfl
  have ne0 : ∀ z : Int, ¬z = 0 → (z != 0) = true := fun z hz => by simpa using hz
  have eq0 : ∀ z : Int, z = 0 → (z != 0) = false := fun z hz => by simpa using hz
  have wneg : IntKind.i64.wrap (0 - b.cmp a) = a.cmp b := by rw [wrap_i64 (by omega) (by omega)]; omega
  have hz' : ((a.cmp b == 0) == decide (a = b)) = true := by
    by_cases h : a = b
    · rw [hz.2 h]; simp [h]
    · have : ¬ a.cmp b = 0 := fun q => h (hz.1 q)
      have : (a.cmp b == 0) = false := by simpa using this
      rw [this]; simp [h]
  have hI : (isB 4 a b == (isB 3 a b || isB 1 a b)) = true := by
    unfold isB
    rcases hr with q | q | q <;> by_cases q1 : a.k = b.k <;> by_cases q2 : a.k = 0 <;> simp [q, q1, q2, soB]
  have hJ : (isB 5 a b == isB 3 b a) = true := by
    unfold isB
    have hb' : b.cmp a = - a.cmp b := by omega
    rcases hr with q | q | q <;> by_cases q1 : a.k = b.k <;> by_cases q2 : a.k = 0 <;> simp [hb', q, q1, q2, soB, eq_comm] <;> (rw [← q1]; simp [q2])
  have tZ : ¬ a.cmp b > 0 → ¬ b.cmp c > 0 → a.cmp c ≤ 0 := fun q1 q2 => CellD.cmp_trans (b := b) (by omega) (by omega)
  have tE : a.cmp b = 0 → a.cmp c = b.cmp c := fun q => by rw [hz.1 q]
  unfold pt
  have hI3 : (isB 3 a b = true ∧ (isB 4 a b == true) = true) ∨ (isB 3 a b = false ∧ (isB 4 a b == isB 1 a b) = true) := by
    cases q : isB 3 a b
    · right; rw [q] at hI; simpa using hI
    · left; rw [q] at hI; simpa using hI
  cases e1 : (a.k == b.k)
  · skip
    cases qX : decide (a.cmp b > 0)
    · cases qY : decide (b.cmp c > 0)
      · have qZ : decide (a.cmp c ≤ 0) = true := by simp at qX qY; simpa using tZ (by omega) (by omega)
        cases qN : (a.cmp b != 0)
        · have qE : (a.cmp c == b.cmp c) = true := by simp at qN; rw [tE qN]; simp
          repeat (with_reducible apply Tl.val; focus (simp only [bnd_some, bin_add, bin_sub, bin_mul, bin_lss, bin_leq, bin_gtr, bin_geq, bin_eql, bin_neq, un_not, un_neg, goInt, gd_tt, gd_ff, gd_tf, gd_ft, gd_sk, gd3_tt, gd3_ff, gd3_tf, gd3_ft, gd3_sk, Option.map_some, lt_some, pick_t, pick_f, Nat.zero_add, Bool.not_true, Bool.not_false, Bool.true_and, Bool.false_and, Bool.and_true, Bool.and_false, cond_true, cond_false, beq_self_eq_true, Int.reduceBEq, decide_true, decide_false, ld2, ld3, ld9, ld26, ld28, fa26_0, fa26_1, fa26_2, aggV, eql26, neq26, bin_eql_bool u4, ka7, kb7, ra7, rb7, e1, qX, qY, qZ, qN, qE] <;> with_reducible rfl))
          with_reducible refine Tl.call S7 (f15c (k := k + 9) b a h7) fun h8 S8 _ => ?_
          have ra8 := row_at (i := 2) S8 rfl
          have rb8 := row_at (i := 1) S8 rfl
          repeat (with_reducible apply Tl.val; focus (simp only [bnd_some, bin_add, bin_sub, bin_mul, bin_lss, bin_leq, bin_gtr, bin_geq, bin_eql, bin_neq, un_not, un_neg, goInt, gd_tt, gd_ff, gd_tf, gd_ft, gd_sk, gd3_tt, gd3_ff, gd3_tf, gd3_ft, gd3_sk, Option.map_some, lt_some, pick_t, pick_f, Nat.zero_add, Bool.not_true, Bool.not_false, Bool.true_and, Bool.false_and, Bool.and_true, Bool.and_false, cond_true, cond_false, beq_self_eq_true, Int.reduceBEq, decide_true, decide_false, ld2, ld3, ld9, ld26, ld28, fa26_0, fa26_1, fa26_2, aggV, eql26, neq26, bin_eql_bool u4, ra8, rb8, wneg, hz', e1, qX, qY, qZ, qN, qE] <;> with_reducible rfl))
          with_reducible refine Tl.gd3_on ?_
          with_reducible refine Tl.call S8 (f16c (k := k + 7) 4 a b h8) fun h9 S9 _ => ?_
          have ra9 := row_at (i := 2) S9 rfl
          have rb9 := row_at (i := 1) S9 rfl
          repeat (with_reducible apply Tl.val; focus (simp only [bnd_some, bin_add, bin_sub, bin_mul, bin_lss, bin_leq, bin_gtr, bin_geq, bin_eql, bin_neq, un_not, un_neg, goInt, gd_tt, gd_ff, gd_tf, gd_ft, gd_sk, gd3_tt, gd3_ff, gd3_tf, gd3_ft, gd3_sk, Option.map_some, lt_some, pick_t, pick_f, Nat.zero_add, Bool.not_true, Bool.not_false, Bool.true_and, Bool.false_and, Bool.and_true, Bool.and_false, cond_true, cond_false, beq_self_eq_true, Int.reduceBEq, decide_true, decide_false, ld2, ld3, ld9, ld26, ld28, fa26_0, fa26_1, fa26_2, aggV, eql26, neq26, bin_eql_bool u4, ra9, rb9] <;> with_reducible rfl))
          with_reducible refine Tl.gd3_on ?_
          with_reducible refine Tl.call S9 (f16c (k := k + 7) 3 a b h9) fun h10 S10 _ => ?_
          have ra10 := row_at (i := 2) S10 rfl
          have rb10 := row_at (i := 1) S10 rfl
          rcases hI3 with ⟨q3, hI'⟩ | ⟨q3, hI'⟩
          · rw [q3]
            repeat (with_reducible apply Tl.val; focus (simp only [bnd_some, bin_add, bin_sub, bin_mul, bin_lss, bin_leq, bin_gtr, bin_geq, bin_eql, bin_neq, un_not, un_neg, goInt, gd_tt, gd_ff, gd_tf, gd_ft, gd_sk, gd3_tt, gd3_ff, gd3_tf, gd3_ft, gd3_sk, Option.map_some, lt_some, pick_t, pick_f, Nat.zero_add, Bool.not_true, Bool.not_false, Bool.true_and, Bool.false_and, Bool.and_true, Bool.and_false, cond_true, cond_false, beq_self_eq_true, Int.reduceBEq, decide_true, decide_false, ld2, ld3, ld9, ld26, ld28, fa26_0, fa26_1, fa26_2, aggV, eql26, neq26, bin_eql_bool u4, ra10, rb10, hI', bin_eql_bool u4] <;> with_reducible rfl))
            with_reducible refine Tl.gd3_on ?_
            with_reducible refine Tl.call S10 (f16c (k := k + 7) 5 a b h10) fun h12 S12 _ => ?_
            have ra12 := row_at (i := 2) S12 rfl
            have rb12 := row_at (i := 1) S12 rfl
            repeat (with_reducible apply Tl.val; focus (simp only [bnd_some, bin_add, bin_sub, bin_mul, bin_lss, bin_leq, bin_gtr, bin_geq, bin_eql, bin_neq, un_not, un_neg, goInt, gd_tt, gd_ff, gd_tf, gd_ft, gd_sk, gd3_tt, gd3_ff, gd3_tf, gd3_ft, gd3_sk, Option.map_some, lt_some, pick_t, pick_f, Nat.zero_add, Bool.not_true, Bool.not_false, Bool.true_and, Bool.false_and, Bool.and_true, Bool.and_false, cond_true, cond_false, beq_self_eq_true, Int.reduceBEq, decide_true, decide_false, ld2, ld3, ld9, ld26, ld28, fa26_0, fa26_1, fa26_2, aggV, eql26, neq26, bin_eql_bool u4, ra12, rb12] <;> with_reducible rfl))
            with_reducible refine Tl.gd3_on ?_
            with_reducible refine Tl.call S12 (f16c (k := k + 7) 3 b a h12) fun h13 S13 _ => ?_
            repeat (with_reducible apply Tl.val; focus (simp only [bnd_some, bin_add, bin_sub, bin_mul, bin_lss, bin_leq, bin_gtr, bin_geq, bin_eql, bin_neq, un_not, un_neg, goInt, gd_tt, gd_ff, gd_tf, gd_ft, gd_sk, gd3_tt, gd3_ff, gd3_tf, gd3_ft, gd3_sk, Option.map_some, lt_some, pick_t, pick_f, Nat.zero_add, Bool.not_true, Bool.not_false, Bool.true_and, Bool.false_and, Bool.and_true, Bool.and_false, cond_true, cond_false, beq_self_eq_true, Int.reduceBEq, decide_true, decide_false, ld2, ld3, ld9, ld26, ld28, fa26_0, fa26_1, fa26_2, aggV, eql26, neq26, bin_eql_bool u4, hJ, bin_eql_bool u4] <;> with_reducible rfl))
            with_reducible refine Tl.chk ?_ ?_
            · simp only [ld26, ra8, rb8, ra9, rb9, ra10, rb10, ra12, rb12, Option.map_some, aggV, sameO_some, sameC, Bool.and_self, Bool.not_true, Bool.not_false, Bool.or_true, Bool.true_or, Bool.true_and, Bool.false_or]
            exact ⟨_, rfl, rfl⟩
          · rw [q3]
            repeat (with_reducible apply Tl.val; focus (simp only [bnd_some, bin_add, bin_sub, bin_mul, bin_lss, bin_leq, bin_gtr, bin_geq, bin_eql, bin_neq, un_not, un_neg, goInt, gd_tt, gd_ff, gd_tf, gd_ft, gd_sk, gd3_tt, gd3_ff, gd3_tf, gd3_ft, gd3_sk, Option.map_some, lt_some, pick_t, pick_f, Nat.zero_add, Bool.not_true, Bool.not_false, Bool.true_and, Bool.false_and, Bool.and_true, Bool.and_false, cond_true, cond_false, beq_self_eq_true, Int.reduceBEq, decide_true, decide_false, ld2, ld3, ld9, ld26, ld28, fa26_0, fa26_1, fa26_2, aggV, eql26, neq26, bin_eql_bool u4, ra10, rb10, hI', bin_eql_bool u4] <;> with_reducible rfl))
            with_reducible refine Tl.gd3_on ?_
            with_reducible refine Tl.call S10 (f16c (k := k + 7) 1 a b h10) fun h11 S11 _ => ?_
            have ra11 := row_at (i := 2) S11 rfl
            have rb11 := row_at (i := 1) S11 rfl
            repeat (with_reducible apply Tl.val; focus (simp only [bnd_some, bin_add, bin_sub, bin_mul, bin_lss, bin_leq, bin_gtr, bin_geq, bin_eql, bin_neq, un_not, un_neg, goInt, gd_tt, gd_ff, gd_tf, gd_ft, gd_sk, gd3_tt, gd3_ff, gd3_tf, gd3_ft, gd3_sk, Option.map_some, lt_some, pick_t, pick_f, Nat.zero_add, Bool.not_true, Bool.not_false, Bool.true_and, Bool.false_and, Bool.and_true, Bool.and_false, cond_true, cond_false, beq_self_eq_true, Int.reduceBEq, decide_true, decide_false, ld2, ld3, ld9, ld26, ld28, fa26_0, fa26_1, fa26_2, aggV, eql26, neq26, bin_eql_bool u4, ra11, rb11, hI', bin_eql_bool u4] <;> with_reducible rfl))
            with_reducible refine Tl.gd3_on ?_
            with_reducible refine Tl.call S11 (f16c (k := k + 7) 5 a b h11) fun h12 S12 _ => ?_
            have ra12 := row_at (i := 2) S12 rfl
            have rb12 := row_at (i := 1) S12 rfl
            repeat (with_reducible apply Tl.val; focus (simp only [bnd_some, bin_add, bin_sub, bin_mul, bin_lss, bin_leq, bin_gtr, bin_geq, bin_eql, bin_neq, un_not, un_neg, goInt, gd_tt, gd_ff, gd_tf, gd_ft, gd_sk, gd3_tt, gd3_ff, gd3_tf, gd3_ft, gd3_sk, Option.map_some, lt_some, pick_t, pick_f, Nat.zero_add, Bool.not_true, Bool.not_false, Bool.true_and, Bool.false_and, Bool.and_true, Bool.and_false, cond_true, cond_false, beq_self_eq_true, Int.reduceBEq, decide_true, decide_false, ld2, ld3, ld9, ld26, ld28, fa26_0, fa26_1, fa26_2, aggV, eql26, neq26, bin_eql_bool u4, ra12, rb12] <;> with_reducible rfl))
            with_reducible refine Tl.gd3_on ?_
            with_reducible refine Tl.call S12 (f16c (k := k + 7) 3 b a h12) fun h13 S13 _ => ?_
            repeat (with_reducible apply Tl.val; focus (simp only [bnd_some, bin_add, bin_sub, bin_mul, bin_lss, bin_leq, bin_gtr, bin_geq, bin_eql, bin_neq, un_not, un_neg, goInt, gd_tt, gd_ff, gd_tf, gd_ft, gd_sk, gd3_tt, gd3_ff, gd3_tf, gd3_ft, gd3_sk, Option.map_some, lt_some, pick_t, pick_f, Nat.zero_add, Bool.not_true, Bool.not_false, Bool.true_and, Bool.false_and, Bool.and_true, Bool.and_false, cond_true, cond_false, beq_self_eq_true, Int.reduceBEq, decide_true, decide_false, ld2, ld3, ld9, ld26, ld28, fa26_0, fa26_1, fa26_2, aggV, eql26, neq26, bin_eql_bool u4, hJ, bin_eql_bool u4] <;> with_reducible rfl))
            with_reducible refine Tl.chk ?_ ?_
            · simp only [ld26, ra8, rb8, ra9, rb9, ra10, rb10, ra12, rb12, ra11, rb11, Option.map_some, aggV, sameO_some, sameC, Bool.and_self, Bool.not_true, Bool.not_false, Bool.or_true, Bool.true_or, Bool.true_and, Bool.false_or]
            exact ⟨_, rfl, rfl⟩
        ·
          repeat (with_reducible apply Tl.val; focus (simp only [bnd_some, bin_add, bin_sub, bin_mul, bin_lss, bin_leq, bin_gtr, bin_geq, bin_eql, bin_neq, un_not, un_neg, goInt, gd_tt, gd_ff, gd_tf, gd_ft, gd_sk, gd3_tt, gd3_ff, gd3_tf, gd3_ft, gd3_sk, Option.map_some, lt_some, pick_t, pick_f, Nat.zero_add, Bool.not_true, Bool.not_false, Bool.true_and, Bool.false_and, Bool.and_true, Bool.and_false, cond_true, cond_false, beq_self_eq_true, Int.reduceBEq, decide_true, decide_false, ld2, ld3, ld9, ld26, ld28, fa26_0, fa26_1, fa26_2, aggV, eql26, neq26, bin_eql_bool u4, ka7, kb7, ra7, rb7, e1, qX, qY, qZ, qN] <;> with_reducible rfl))
          with_reducible refine Tl.call S7 (f15c (k := k + 9) b a h7) fun h8 S8 _ => ?_
          have ra8 := row_at (i := 2) S8 rfl
          have rb8 := row_at (i := 1) S8 rfl
          repeat (with_reducible apply Tl.val; focus (simp only [bnd_some, bin_add, bin_sub, bin_mul, bin_lss, bin_leq, bin_gtr, bin_geq, bin_eql, bin_neq, un_not, un_neg, goInt, gd_tt, gd_ff, gd_tf, gd_ft, gd_sk, gd3_tt, gd3_ff, gd3_tf, gd3_ft, gd3_sk, Option.map_some, lt_some, pick_t, pick_f, Nat.zero_add, Bool.not_true, Bool.not_false, Bool.true_and, Bool.false_and, Bool.and_true, Bool.and_false, cond_true, cond_false, beq_self_eq_true, Int.reduceBEq, decide_true, decide_false, ld2, ld3, ld9, ld26, ld28, fa26_0, fa26_1, fa26_2, aggV, eql26, neq26, bin_eql_bool u4, ra8, rb8, wneg, hz', e1, qX, qY, qZ, qN] <;> with_reducible rfl))
          with_reducible refine Tl.gd3_on ?_
          with_reducible refine Tl.call S8 (f16c (k := k + 7) 4 a b h8) fun h9 S9 _ => ?_
          have ra9 := row_at (i := 2) S9 rfl
          have rb9 := row_at (i := 1) S9 rfl
          repeat (with_reducible apply Tl.val; focus (simp only [bnd_some, bin_add, bin_sub, bin_mul, bin_lss, bin_leq, bin_gtr, bin_geq, bin_eql, bin_neq, un_not, un_neg, goInt, gd_tt, gd_ff, gd_tf, gd_ft, gd_sk, gd3_tt, gd3_ff, gd3_tf, gd3_ft, gd3_sk, Option.map_some, lt_some, pick_t, pick_f, Nat.zero_add, Bool.not_true, Bool.not_false, Bool.true_and, Bool.false_and, Bool.and_true, Bool.and_false, cond_true, cond_false, beq_self_eq_true, Int.reduceBEq, decide_true, decide_false, ld2, ld3, ld9, ld26, ld28, fa26_0, fa26_1, fa26_2, aggV, eql26, neq26, bin_eql_bool u4, ra9, rb9] <;> with_reducible rfl))
          with_reducible refine Tl.gd3_on ?_
          with_reducible refine Tl.call S9 (f16c (k := k + 7) 3 a b h9) fun h10 S10 _ => ?_
          have ra10 := row_at (i := 2) S10 rfl
          have rb10 := row_at (i := 1) S10 rfl
          rcases hI3 with ⟨q3, hI'⟩ | ⟨q3, hI'⟩
          · rw [q3]
            repeat (with_reducible apply Tl.val; focus (simp only [bnd_some, bin_add, bin_sub, bin_mul, bin_lss, bin_leq, bin_gtr, bin_geq, bin_eql, bin_neq, un_not, un_neg, goInt, gd_tt, gd_ff, gd_tf, gd_ft, gd_sk, gd3_tt, gd3_ff, gd3_tf, gd3_ft, gd3_sk, Option.map_some, lt_some, pick_t, pick_f, Nat.zero_add, Bool.not_true, Bool.not_false, Bool.true_and, Bool.false_and, Bool.and_true, Bool.and_false, cond_true, cond_false, beq_self_eq_true, Int.reduceBEq, decide_true, decide_false, ld2, ld3, ld9, ld26, ld28, fa26_0, fa26_1, fa26_2, aggV, eql26, neq26, bin_eql_bool u4, ra10, rb10, hI', bin_eql_bool u4] <;> with_reducible rfl))
            with_reducible refine Tl.gd3_on ?_
            with_reducible refine Tl.call S10 (f16c (k := k + 7) 5 a b h10) fun h12 S12 _ => ?_
            have ra12 := row_at (i := 2) S12 rfl
            have rb12 := row_at (i := 1) S12 rfl
            repeat (with_reducible apply Tl.val; focus (simp only [bnd_some, bin_add, bin_sub, bin_mul, bin_lss, bin_leq, bin_gtr, bin_geq, bin_eql, bin_neq, un_not, un_neg, goInt, gd_tt, gd_ff, gd_tf, gd_ft, gd_sk, gd3_tt, gd3_ff, gd3_tf, gd3_ft, gd3_sk, Option.map_some, lt_some, pick_t, pick_f, Nat.zero_add, Bool.not_true, Bool.not_false, Bool.true_and, Bool.false_and, Bool.and_true, Bool.and_false, cond_true, cond_false, beq_self_eq_true, Int.reduceBEq, decide_true, decide_false, ld2, ld3, ld9, ld26, ld28, fa26_0, fa26_1, fa26_2, aggV, eql26, neq26, bin_eql_bool u4, ra12, rb12] <;> with_reducible rfl))
            with_reducible refine Tl.gd3_on ?_
            with_reducible refine Tl.call S12 (f16c (k := k + 7) 3 b a h12) fun h13 S13 _ => ?_
            repeat (with_reducible apply Tl.val; focus (simp only [bnd_some, bin_add, bin_sub, bin_mul, bin_lss, bin_leq, bin_gtr, bin_geq, bin_eql, bin_neq, un_not, un_neg, goInt, gd_tt, gd_ff, gd_tf, gd_ft, gd_sk, gd3_tt, gd3_ff, gd3_tf, gd3_ft, gd3_sk, Option.map_some, lt_some, pick_t, pick_f, Nat.zero_add, Bool.not_true, Bool.not_false, Bool.true_and, Bool.false_and, Bool.and_true, Bool.and_false, cond_true, cond_false, beq_self_eq_true, Int.reduceBEq, decide_true, decide_false, ld2, ld3, ld9, ld26, ld28, fa26_0, fa26_1, fa26_2, aggV, eql26, neq26, bin_eql_bool u4, hJ, bin_eql_bool u4] <;> with_reducible rfl))
            with_reducible refine Tl.chk ?_ ?_
            · simp only [ld26, ra8, rb8, ra9, rb9, ra10, rb10, ra12, rb12, Option.map_some, aggV, sameO_some, sameC, Bool.and_self, Bool.not_true, Bool.not_false, Bool.or_true, Bool.true_or, Bool.true_and, Bool.false_or]
            exact ⟨_, rfl, rfl⟩
          · rw [q3]
            repeat (with_reducible apply Tl.val; focus (simp only [bnd_some, bin_add, bin_sub, bin_mul, bin_lss, bin_leq, bin_gtr, bin_geq, bin_eql, bin_neq, un_not, un_neg, goInt, gd_tt, gd_ff, gd_tf, gd_ft, gd_sk, gd3_tt, gd3_ff, gd3_tf, gd3_ft, gd3_sk, Option.map_some, lt_some, pick_t, pick_f, Nat.zero_add, Bool.not_true, Bool.not_false, Bool.true_and, Bool.false_and, Bool.and_true, Bool.and_false, cond_true, cond_false, beq_self_eq_true, Int.reduceBEq, decide_true, decide_false, ld2, ld3, ld9, ld26, ld28, fa26_0, fa26_1, fa26_2, aggV, eql26, neq26, bin_eql_bool u4, ra10, rb10, hI', bin_eql_bool u4] <;> with_reducible rfl))
            with_reducible refine Tl.gd3_on ?_
            with_reducible refine Tl.call S10 (f16c (k := k + 7) 1 a b h10) fun h11 S11 _ => ?_
            have ra11 := row_at (i := 2) S11 rfl
            have rb11 := row_at (i := 1) S11 rfl
            repeat (with_reducible apply Tl.val; focus (simp only [bnd_some, bin_add, bin_sub, bin_mul, bin_lss, bin_leq, bin_gtr, bin_geq, bin_eql, bin_neq, un_not, un_neg, goInt, gd_tt, gd_ff, gd_tf, gd_ft, gd_sk, gd3_tt, gd3_ff, gd3_tf, gd3_ft, gd3_sk, Option.map_some, lt_some, pick_t, pick_f, Nat.zero_add, Bool.not_true, Bool.not_false, Bool.true_and, Bool.false_and, Bool.and_true, Bool.and_false, cond_true, cond_false, beq_self_eq_true, Int.reduceBEq, decide_true, decide_false, ld2, ld3, ld9, ld26, ld28, fa26_0, fa26_1, fa26_2, aggV, eql26, neq26, bin_eql_bool u4, ra11, rb11, hI', bin_eql_bool u4] <;> with_reducible rfl))
            with_reducible refine Tl.gd3_on ?_
            with_reducible refine Tl.call S11 (f16c (k := k + 7) 5 a b h11) fun h12 S12 _ => ?_
            have ra12 := row_at (i := 2) S12 rfl
            have rb12 := row_at (i := 1) S12 rfl
            repeat (with_reducible apply Tl.val; focus (simp only [bnd_some, bin_add, bin_sub, bin_mul, bin_lss, bin_leq, bin_gtr, bin_geq, bin_eql, bin_neq, un_not, un_neg, goInt, gd_tt, gd_ff, gd_tf, gd_ft, gd_sk, gd3_tt, gd3_ff, gd3_tf, gd3_ft, gd3_sk, Option.map_some, lt_some, pick_t, pick_f, Nat.zero_add, Bool.not_true, Bool.not_false, Bool.true_and, Bool.false_and, Bool.and_true, Bool.and_false, cond_true, cond_false, beq_self_eq_true, Int.reduceBEq, decide_true, decide_false, ld2, ld3, ld9, ld26, ld28, fa26_0, fa26_1, fa26_2, aggV, eql26, neq26, bin_eql_bool u4, ra12, rb12] <;> with_reducible rfl))
            with_reducible refine Tl.gd3_on ?_
            with_reducible refine Tl.call S12 (f16c (k := k + 7) 3 b a h12) fun h13 S13 _ => ?_
            repeat (with_reducible apply Tl.val; focus (simp only [bnd_some, bin_add, bin_sub, bin_mul, bin_lss, bin_leq, bin_gtr, bin_geq, bin_eql, bin_neq, un_not, un_neg, goInt, gd_tt, gd_ff, gd_tf, gd_ft, gd_sk, gd3_tt, gd3_ff, gd3_tf, gd3_ft, gd3_sk, Option.map_some, lt_some, pick_t, pick_f, Nat.zero_add, Bool.not_true, Bool.not_false, Bool.true_and, Bool.false_and, Bool.and_true, Bool.and_false, cond_true, cond_false, beq_self_eq_true, Int.reduceBEq, decide_true, decide_false, ld2, ld3, ld9, ld26, ld28, fa26_0, fa26_1, fa26_2, aggV, eql26, neq26, bin_eql_bool u4, hJ, bin_eql_bool u4] <;> with_reducible rfl))
            with_reducible refine Tl.chk ?_ ?_
            · simp only [ld26, ra8, rb8, ra9, rb9, ra10, rb10, ra12, rb12, ra11, rb11, Option.map_some, aggV, sameO_some, sameC, Bool.and_self, Bool.not_true, Bool.not_false, Bool.or_true, Bool.true_or, Bool.true_and, Bool.false_or]
            exact ⟨_, rfl, rfl⟩
      · cases qN : (a.cmp b != 0)
        · have qE : (a.cmp c == b.cmp c) = true := by simp at qN; rw [tE qN]; simp
          repeat (with_reducible apply Tl.val; focus (simp only [bnd_some, bin_add, bin_sub, bin_mul, bin_lss, bin_leq, bin_gtr, bin_geq, bin_eql, bin_neq, un_not, un_neg, goInt, gd_tt, gd_ff, gd_tf, gd_ft, gd_sk, gd3_tt, gd3_ff, gd3_tf, gd3_ft, gd3_sk, Option.map_some, lt_some, pick_t, pick_f, Nat.zero_add, Bool.not_true, Bool.not_false, Bool.true_and, Bool.false_and, Bool.and_true, Bool.and_false, cond_true, cond_false, beq_self_eq_true, Int.reduceBEq, decide_true, decide_false, ld2, ld3, ld9, ld26, ld28, fa26_0, fa26_1, fa26_2, aggV, eql26, neq26, bin_eql_bool u4, ka7, kb7, ra7, rb7, e1, qX, qY, qN, qE] <;> with_reducible rfl))
          with_reducible refine Tl.call S7 (f15c (k := k + 9) b a h7) fun h8 S8 _ => ?_
          have ra8 := row_at (i := 2) S8 rfl
          have rb8 := row_at (i := 1) S8 rfl
          repeat (with_reducible apply Tl.val; focus (simp only [bnd_some, bin_add, bin_sub, bin_mul, bin_lss, bin_leq, bin_gtr, bin_geq, bin_eql, bin_neq, un_not, un_neg, goInt, gd_tt, gd_ff, gd_tf, gd_ft, gd_sk, gd3_tt, gd3_ff, gd3_tf, gd3_ft, gd3_sk, Option.map_some, lt_some, pick_t, pick_f, Nat.zero_add, Bool.not_true, Bool.not_false, Bool.true_and, Bool.false_and, Bool.and_true, Bool.and_false, cond_true, cond_false, beq_self_eq_true, Int.reduceBEq, decide_true, decide_false, ld2, ld3, ld9, ld26, ld28, fa26_0, fa26_1, fa26_2, aggV, eql26, neq26, bin_eql_bool u4, ra8, rb8, wneg, hz', e1, qX, qY, qN, qE] <;> with_reducible rfl))
          with_reducible refine Tl.gd3_on ?_
          with_reducible refine Tl.call S8 (f16c (k := k + 7) 4 a b h8) fun h9 S9 _ => ?_
          have ra9 := row_at (i := 2) S9 rfl
          have rb9 := row_at (i := 1) S9 rfl
          repeat (with_reducible apply Tl.val; focus (simp only [bnd_some, bin_add, bin_sub, bin_mul, bin_lss, bin_leq, bin_gtr, bin_geq, bin_eql, bin_neq, un_not, un_neg, goInt, gd_tt, gd_ff, gd_tf, gd_ft, gd_sk, gd3_tt, gd3_ff, gd3_tf, gd3_ft, gd3_sk, Option.map_some, lt_some, pick_t, pick_f, Nat.zero_add, Bool.not_true, Bool.not_false, Bool.true_and, Bool.false_and, Bool.and_true, Bool.and_false, cond_true, cond_false, beq_self_eq_true, Int.reduceBEq, decide_true, decide_false, ld2, ld3, ld9, ld26, ld28, fa26_0, fa26_1, fa26_2, aggV, eql26, neq26, bin_eql_bool u4, ra9, rb9] <;> with_reducible rfl))
          with_reducible refine Tl.gd3_on ?_
          with_reducible refine Tl.call S9 (f16c (k := k + 7) 3 a b h9) fun h10 S10 _ => ?_
          have ra10 := row_at (i := 2) S10 rfl
          have rb10 := row_at (i := 1) S10 rfl
          rcases hI3 with ⟨q3, hI'⟩ | ⟨q3, hI'⟩
          · rw [q3]
            repeat (with_reducible apply Tl.val; focus (simp only [bnd_some, bin_add, bin_sub, bin_mul, bin_lss, bin_leq, bin_gtr, bin_geq, bin_eql, bin_neq, un_not, un_neg, goInt, gd_tt, gd_ff, gd_tf, gd_ft, gd_sk, gd3_tt, gd3_ff, gd3_tf, gd3_ft, gd3_sk, Option.map_some, lt_some, pick_t, pick_f, Nat.zero_add, Bool.not_true, Bool.not_false, Bool.true_and, Bool.false_and, Bool.and_true, Bool.and_false, cond_true, cond_false, beq_self_eq_true, Int.reduceBEq, decide_true, decide_false, ld2, ld3, ld9, ld26, ld28, fa26_0, fa26_1, fa26_2, aggV, eql26, neq26, bin_eql_bool u4, ra10, rb10, hI', bin_eql_bool u4] <;> with_reducible rfl))
            with_reducible refine Tl.gd3_on ?_
            with_reducible refine Tl.call S10 (f16c (k := k + 7) 5 a b h10) fun h12 S12 _ => ?_
            have ra12 := row_at (i := 2) S12 rfl
            have rb12 := row_at (i := 1) S12 rfl
            repeat (with_reducible apply Tl.val; focus (simp only [bnd_some, bin_add, bin_sub, bin_mul, bin_lss, bin_leq, bin_gtr, bin_geq, bin_eql, bin_neq, un_not, un_neg, goInt, gd_tt, gd_ff, gd_tf, gd_ft, gd_sk, gd3_tt, gd3_ff, gd3_tf, gd3_ft, gd3_sk, Option.map_some, lt_some, pick_t, pick_f, Nat.zero_add, Bool.not_true, Bool.not_false, Bool.true_and, Bool.false_and, Bool.and_true, Bool.and_false, cond_true, cond_false, beq_self_eq_true, Int.reduceBEq, decide_true, decide_false, ld2, ld3, ld9, ld26, ld28, fa26_0, fa26_1, fa26_2, aggV, eql26, neq26, bin_eql_bool u4, ra12, rb12] <;> with_reducible rfl))
            with_reducible refine Tl.gd3_on ?_
            with_reducible refine Tl.call S12 (f16c (k := k + 7) 3 b a h12) fun h13 S13 _ => ?_
            repeat (with_reducible apply Tl.val; focus (simp only [bnd_some, bin_add, bin_sub, bin_mul, bin_lss, bin_leq, bin_gtr, bin_geq, bin_eql, bin_neq, un_not, un_neg, goInt, gd_tt, gd_ff, gd_tf, gd_ft, gd_sk, gd3_tt, gd3_ff, gd3_tf, gd3_ft, gd3_sk, Option.map_some, lt_some, pick_t, pick_f, Nat.zero_add, Bool.not_true, Bool.not_false, Bool.true_and, Bool.false_and, Bool.and_true, Bool.and_false, cond_true, cond_false, beq_self_eq_true, Int.reduceBEq, decide_true, decide_false, ld2, ld3, ld9, ld26, ld28, fa26_0, fa26_1, fa26_2, aggV, eql26, neq26, bin_eql_bool u4, hJ, bin_eql_bool u4] <;> with_reducible rfl))
            with_reducible refine Tl.chk ?_ ?_
            · simp only [ld26, ra8, rb8, ra9, rb9, ra10, rb10, ra12, rb12, Option.map_some, aggV, sameO_some, sameC, Bool.and_self, Bool.not_true, Bool.not_false, Bool.or_true, Bool.true_or, Bool.true_and, Bool.false_or]
            exact ⟨_, rfl, rfl⟩
          · rw [q3]
            repeat (with_reducible apply Tl.val; focus (simp only [bnd_some, bin_add, bin_sub, bin_mul, bin_lss, bin_leq, bin_gtr, bin_geq, bin_eql, bin_neq, un_not, un_neg, goInt, gd_tt, gd_ff, gd_tf, gd_ft, gd_sk, gd3_tt, gd3_ff, gd3_tf, gd3_ft, gd3_sk, Option.map_some, lt_some, pick_t, pick_f, Nat.zero_add, Bool.not_true, Bool.not_false, Bool.true_and, Bool.false_and, Bool.and_true, Bool.and_false, cond_true, cond_false, beq_self_eq_true, Int.reduceBEq, decide_true, decide_false, ld2, ld3, ld9, ld26, ld28, fa26_0, fa26_1, fa26_2, aggV, eql26, neq26, bin_eql_bool u4, ra10, rb10, hI', bin_eql_bool u4] <;> with_reducible rfl))
            with_reducible refine Tl.gd3_on ?_
            with_reducible refine Tl.call S10 (f16c (k := k + 7) 1 a b h10) fun h11 S11 _ => ?_
            have ra11 := row_at (i := 2) S11 rfl
            have rb11 := row_at (i := 1) S11 rfl
            repeat (with_reducible apply Tl.val; focus (simp only [bnd_some, bin_add, bin_sub, bin_mul, bin_lss, bin_leq, bin_gtr, bin_geq, bin_eql, bin_neq, un_not, un_neg, goInt, gd_tt, gd_ff, gd_tf, gd_ft, gd_sk, gd3_tt, gd3_ff, gd3_tf, gd3_ft, gd3_sk, Option.map_some, lt_some, pick_t, pick_f, Nat.zero_add, Bool.not_true, Bool.not_false, Bool.true_and, Bool.false_and, Bool.and_true, Bool.and_false, cond_true, cond_false, beq_self_eq_true, Int.reduceBEq, decide_true, decide_false, ld2, ld3, ld9, ld26, ld28, fa26_0, fa26_1, fa26_2, aggV, eql26, neq26, bin_eql_bool u4, ra11, rb11, hI', bin_eql_bool u4] <;> with_reducible rfl))
            with_reducible refine Tl.gd3_on ?_
            with_reducible refine Tl.call S11 (f16c (k := k + 7) 5 a b h11) fun h12 S12 _ => ?_
            have ra12 := row_at (i := 2) S12 rfl
            have rb12 := row_at (i := 1) S12 rfl
            repeat (with_reducible apply Tl.val; focus (simp only [bnd_some, bin_add, bin_sub, bin_mul, bin_lss, bin_leq, bin_gtr, bin_geq, bin_eql, bin_neq, un_not, un_neg, goInt, gd_tt, gd_ff, gd_tf, gd_ft, gd_sk, gd3_tt, gd3_ff, gd3_tf, gd3_ft, gd3_sk, Option.map_some, lt_some, pick_t, pick_f, Nat.zero_add, Bool.not_true, Bool.not_false, Bool.true_and, Bool.false_and, Bool.and_true, Bool.and_false, cond_true, cond_false, beq_self_eq_true, Int.reduceBEq, decide_true, decide_false, ld2, ld3, ld9, ld26, ld28, fa26_0, fa26_1, fa26_2, aggV, eql26, neq26, bin_eql_bool u4, ra12, rb12] <;> with_reducible rfl))
            with_reducible refine Tl.gd3_on ?_
            with_reducible refine Tl.call S12 (f16c (k := k + 7) 3 b a h12) fun h13 S13 _ => ?_
            repeat (with_reducible apply Tl.val; focus (simp only [bnd_some, bin_add, bin_sub, bin_mul, bin_lss, bin_leq, bin_gtr, bin_geq, bin_eql, bin_neq, un_not, un_neg, goInt, gd_tt, gd_ff, gd_tf, gd_ft, gd_sk, gd3_tt, gd3_ff, gd3_tf, gd3_ft, gd3_sk, Option.map_some, lt_some, pick_t, pick_f, Nat.zero_add, Bool.not_true, Bool.not_false, Bool.true_and, Bool.false_and, Bool.and_true, Bool.and_false, cond_true, cond_false, beq_self_eq_true, Int.reduceBEq, decide_true, decide_false, ld2, ld3, ld9, ld26, ld28, fa26_0, fa26_1, fa26_2, aggV, eql26, neq26, bin_eql_bool u4, hJ, bin_eql_bool u4] <;> with_reducible rfl))
            with_reducible refine Tl.chk ?_ ?_
            · simp only [ld26, ra8, rb8, ra9, rb9, ra10, rb10, ra12, rb12, ra11, rb11, Option.map_some, aggV, sameO_some, sameC, Bool.and_self, Bool.not_true, Bool.not_false, Bool.or_true, Bool.true_or, Bool.true_and, Bool.false_or]
            exact ⟨_, rfl, rfl⟩
        ·
          repeat (with_reducible apply Tl.val; focus (simp only [bnd_some, bin_add, bin_sub, bin_mul, bin_lss, bin_leq, bin_gtr, bin_geq, bin_eql, bin_neq, un_not, un_neg, goInt, gd_tt, gd_ff, gd_tf, gd_ft, gd_sk, gd3_tt, gd3_ff, gd3_tf, gd3_ft, gd3_sk, Option.map_some, lt_some, pick_t, pick_f, Nat.zero_add, Bool.not_true, Bool.not_false, Bool.true_and, Bool.false_and, Bool.and_true, Bool.and_false, cond_true, cond_false, beq_self_eq_true, Int.reduceBEq, decide_true, decide_false, ld2, ld3, ld9, ld26, ld28, fa26_0, fa26_1, fa26_2, aggV, eql26, neq26, bin_eql_bool u4, ka7, kb7, ra7, rb7, e1, qX, qY, qN] <;> with_reducible rfl))
          with_reducible refine Tl.call S7 (f15c (k := k + 9) b a h7) fun h8 S8 _ => ?_
          have ra8 := row_at (i := 2) S8 rfl
          have rb8 := row_at (i := 1) S8 rfl
          repeat (with_reducible apply Tl.val; focus (simp only [bnd_some, bin_add, bin_sub, bin_mul, bin_lss, bin_leq, bin_gtr, bin_geq, bin_eql, bin_neq, un_not, un_neg, goInt, gd_tt, gd_ff, gd_tf, gd_ft, gd_sk, gd3_tt, gd3_ff, gd3_tf, gd3_ft, gd3_sk, Option.map_some, lt_some, pick_t, pick_f, Nat.zero_add, Bool.not_true, Bool.not_false, Bool.true_and, Bool.false_and, Bool.and_true, Bool.and_false, cond_true, cond_false, beq_self_eq_true, Int.reduceBEq, decide_true, decide_false, ld2, ld3, ld9, ld26, ld28, fa26_0, fa26_1, fa26_2, aggV, eql26, neq26, bin_eql_bool u4, ra8, rb8, wneg, hz', e1, qX, qY, qN] <;> with_reducible rfl))
          with_reducible refine Tl.gd3_on ?_
          with_reducible refine Tl.call S8 (f16c (k := k + 7) 4 a b h8) fun h9 S9 _ => ?_
          have ra9 := row_at (i := 2) S9 rfl
          have rb9 := row_at (i := 1) S9 rfl
          repeat (with_reducible apply Tl.val; focus (simp only [bnd_some, bin_add, bin_sub, bin_mul, bin_lss, bin_leq, bin_gtr, bin_geq, bin_eql, bin_neq, un_not, un_neg, goInt, gd_tt, gd_ff, gd_tf, gd_ft, gd_sk, gd3_tt, gd3_ff, gd3_tf, gd3_ft, gd3_sk, Option.map_some, lt_some, pick_t, pick_f, Nat.zero_add, Bool.not_true, Bool.not_false, Bool.true_and, Bool.false_and, Bool.and_true, Bool.and_false, cond_true, cond_false, beq_self_eq_true, Int.reduceBEq, decide_true, decide_false, ld2, ld3, ld9, ld26, ld28, fa26_0, fa26_1, fa26_2, aggV, eql26, neq26, bin_eql_bool u4, ra9, rb9] <;> with_reducible rfl))
          with_reducible refine Tl.gd3_on ?_
          with_reducible refine Tl.call S9 (f16c (k := k + 7) 3 a b h9) fun h10 S10 _ => ?_
          have ra10 := row_at (i := 2) S10 rfl
          have rb10 := row_at (i := 1) S10 rfl
          rcases hI3 with ⟨q3, hI'⟩ | ⟨q3, hI'⟩
          · rw [q3]
            repeat (with_reducible apply Tl.val; focus (simp only [bnd_some, bin_add, bin_sub, bin_mul, bin_lss, bin_leq, bin_gtr, bin_geq, bin_eql, bin_neq, un_not, un_neg, goInt, gd_tt, gd_ff, gd_tf, gd_ft, gd_sk, gd3_tt, gd3_ff, gd3_tf, gd3_ft, gd3_sk, Option.map_some, lt_some, pick_t, pick_f, Nat.zero_add, Bool.not_true, Bool.not_false, Bool.true_and, Bool.false_and, Bool.and_true, Bool.and_false, cond_true, cond_false, beq_self_eq_true, Int.reduceBEq, decide_true, decide_false, ld2, ld3, ld9, ld26, ld28, fa26_0, fa26_1, fa26_2, aggV, eql26, neq26, bin_eql_bool u4, ra10, rb10, hI', bin_eql_bool u4] <;> with_reducible rfl))
            with_reducible refine Tl.gd3_on ?_
            with_reducible refine Tl.call S10 (f16c (k := k + 7) 5 a b h10) fun h12 S12 _ => ?_
            have ra12 := row_at (i := 2) S12 rfl
            have rb12 := row_at (i := 1) S12 rfl
            repeat (with_reducible apply Tl.val; focus (simp only [bnd_some, bin_add, bin_sub, bin_mul, bin_lss, bin_leq, bin_gtr, bin_geq, bin_eql, bin_neq, un_not, un_neg, goInt, gd_tt, gd_ff, gd_tf, gd_ft, gd_sk, gd3_tt, gd3_ff, gd3_tf, gd3_ft, gd3_sk, Option.map_some, lt_some, pick_t, pick_f, Nat.zero_add, Bool.not_true, Bool.not_false, Bool.true_and, Bool.false_and, Bool.and_true, Bool.and_false, cond_true, cond_false, beq_self_eq_true, Int.reduceBEq, decide_true, decide_false, ld2, ld3, ld9, ld26, ld28, fa26_0, fa26_1, fa26_2, aggV, eql26, neq26, bin_eql_bool u4, ra12, rb12] <;> with_reducible rfl))
            with_reducible refine Tl.gd3_on ?_
            with_reducible refine Tl.call S12 (f16c (k := k + 7) 3 b a h12) fun h13 S13 _ => ?_
            repeat (with_reducible apply Tl.val; focus (simp only [bnd_some, bin_add, bin_sub, bin_mul, bin_lss, bin_leq, bin_gtr, bin_geq, bin_eql, bin_neq, un_not, un_neg, goInt, gd_tt, gd_ff, gd_tf, gd_ft, gd_sk, gd3_tt, gd3_ff, gd3_tf, gd3_ft, gd3_sk, Option.map_some, lt_some, pick_t, pick_f, Nat.zero_add, Bool.not_true, Bool.not_false, Bool.true_and, Bool.false_and, Bool.and_true, Bool.and_false, cond_true, cond_false, beq_self_eq_true, Int.reduceBEq, decide_true, decide_false, ld2, ld3, ld9, ld26, ld28, fa26_0, fa26_1, fa26_2, aggV, eql26, neq26, bin_eql_bool u4, hJ, bin_eql_bool u4] <;> with_reducible rfl))
            with_reducible refine Tl.chk ?_ ?_
            · simp only [ld26, ra8, rb8, ra9, rb9, ra10, rb10, ra12, rb12, Option.map_some, aggV, sameO_some, sameC, Bool.and_self, Bool.not_true, Bool.not_false, Bool.or_true, Bool.true_or, Bool.true_and, Bool.false_or]
            exact ⟨_, rfl, rfl⟩
          · rw [q3]
            repeat (with_reducible apply Tl.val; focus (simp only [bnd_some, bin_add, bin_sub, bin_mul, bin_lss, bin_leq, bin_gtr, bin_geq, bin_eql, bin_neq, un_not, un_neg, goInt, gd_tt, gd_ff, gd_tf, gd_ft, gd_sk, gd3_tt, gd3_ff, gd3_tf, gd3_ft, gd3_sk, Option.map_some, lt_some, pick_t, pick_f, Nat.zero_add, Bool.not_true, Bool.not_false, Bool.true_and, Bool.false_and, Bool.and_true, Bool.and_false, cond_true, cond_false, beq_self_eq_true, Int.reduceBEq, decide_true, decide_false, ld2, ld3, ld9, ld26, ld28, fa26_0, fa26_1, fa26_2, aggV, eql26, neq26, bin_eql_bool u4, ra10, rb10, hI', bin_eql_bool u4] <;> with_reducible rfl))
            with_reducible refine Tl.gd3_on ?_
            with_reducible refine Tl.call S10 (f16c (k := k + 7) 1 a b h10) fun h11 S11 _ => ?_
            have ra11 := row_at (i := 2) S11 rfl
            have rb11 := row_at (i := 1) S11 rfl
            repeat (with_reducible apply Tl.val; focus (simp only [bnd_some, bin_add, bin_sub, bin_mul, bin_lss, bin_leq, bin_gtr, bin_geq, bin_eql, bin_neq, un_not, un_neg, goInt, gd_tt, gd_ff, gd_tf, gd_ft, gd_sk, gd3_tt, gd3_ff, gd3_tf, gd3_ft, gd3_sk, Option.map_some, lt_some, pick_t, pick_f, Nat.zero_add, Bool.not_true, Bool.not_false, Bool.true_and, Bool.false_and, Bool.and_true, Bool.and_false, cond_true, cond_false, beq_self_eq_true, Int.reduceBEq, decide_true, decide_false, ld2, ld3, ld9, ld26, ld28, fa26_0, fa26_1, fa26_2, aggV, eql26, neq26, bin_eql_bool u4, ra11, rb11, hI', bin_eql_bool u4] <;> with_reducible rfl))
            with_reducible refine Tl.gd3_on ?_
            with_reducible refine Tl.call S11 (f16c (k := k + 7) 5 a b h11) fun h12 S12 _ => ?_
            have ra12 := row_at (i := 2) S12 rfl
            have rb12 := row_at (i := 1) S12 rfl
            repeat (with_reducible apply Tl.val; focus (simp only [bnd_some, bin_add, bin_sub, bin_mul, bin_lss, bin_leq, bin_gtr, bin_geq, bin_eql, bin_neq, un_not, un_neg, goInt, gd_tt, gd_ff, gd_tf, gd_ft, gd_sk, gd3_tt, gd3_ff, gd3_tf, gd3_ft, gd3_sk, Option.map_some, lt_some, pick_t, pick_f, Nat.zero_add, Bool.not_true, Bool.not_false, Bool.true_and, Bool.false_and, Bool.and_true, Bool.and_false, cond_true, cond_false, beq_self_eq_true, Int.reduceBEq, decide_true, decide_false, ld2, ld3, ld9, ld26, ld28, fa26_0, fa26_1, fa26_2, aggV, eql26, neq26, bin_eql_bool u4, ra12, rb12] <;> with_reducible rfl))
            with_reducible refine Tl.gd3_on ?_
            with_reducible refine Tl.call S12 (f16c (k := k + 7) 3 b a h12) fun h13 S13 _ => ?_
            repeat (with_reducible apply Tl.val; focus (simp only [bnd_some, bin_add, bin_sub, bin_mul, bin_lss, bin_leq, bin_gtr, bin_geq, bin_eql, bin_neq, un_not, un_neg, goInt, gd_tt, gd_ff, gd_tf, gd_ft, gd_sk, gd3_tt, gd3_ff, gd3_tf, gd3_ft, gd3_sk, Option.map_some, lt_some, pick_t, pick_f, Nat.zero_add, Bool.not_true, Bool.not_false, Bool.true_and, Bool.false_and, Bool.and_true, Bool.and_false, cond_true, cond_false, beq_self_eq_true, Int.reduceBEq, decide_true, decide_false, ld2, ld3, ld9, ld26, ld28, fa26_0, fa26_1, fa26_2, aggV, eql26, neq26, bin_eql_bool u4, hJ, bin_eql_bool u4] <;> with_reducible rfl))
            with_reducible refine Tl.chk ?_ ?_
            · simp only [ld26, ra8, rb8, ra9, rb9, ra10, rb10, ra12, rb12, ra11, rb11, Option.map_some, aggV, sameO_some, sameC, Bool.and_self, Bool.not_true, Bool.not_false, Bool.or_true, Bool.true_or, Bool.true_and, Bool.false_or]
            exact ⟨_, rfl, rfl⟩
    · have qN : (a.cmp b != 0) = true := ne0 _ (by simp at qX; omega)
      repeat (with_reducible apply Tl.val; focus (simp only [bnd_some, bin_add, bin_sub, bin_mul, bin_lss, bin_leq, bin_gtr, bin_geq, bin_eql, bin_neq, un_not, un_neg, goInt, gd_tt, gd_ff, gd_tf, gd_ft, gd_sk, gd3_tt, gd3_ff, gd3_tf, gd3_ft, gd3_sk, Option.map_some, lt_some, pick_t, pick_f, Nat.zero_add, Bool.not_true, Bool.not_false, Bool.true_and, Bool.false_and, Bool.and_true, Bool.and_false, cond_true, cond_false, beq_self_eq_true, Int.reduceBEq, decide_true, decide_false, ld2, ld3, ld9, ld26, ld28, fa26_0, fa26_1, fa26_2, aggV, eql26, neq26, bin_eql_bool u4, ka7, kb7, ra7, rb7, e1, qX, qN] <;> with_reducible rfl))
      with_reducible refine Tl.call S7 (f15c (k := k + 9) b a h7) fun h8 S8 _ => ?_
      have ra8 := row_at (i := 2) S8 rfl
      have rb8 := row_at (i := 1) S8 rfl
      repeat (with_reducible apply Tl.val; focus (simp only [bnd_some, bin_add, bin_sub, bin_mul, bin_lss, bin_leq, bin_gtr, bin_geq, bin_eql, bin_neq, un_not, un_neg, goInt, gd_tt, gd_ff, gd_tf, gd_ft, gd_sk, gd3_tt, gd3_ff, gd3_tf, gd3_ft, gd3_sk, Option.map_some, lt_some, pick_t, pick_f, Nat.zero_add, Bool.not_true, Bool.not_false, Bool.true_and, Bool.false_and, Bool.and_true, Bool.and_false, cond_true, cond_false, beq_self_eq_true, Int.reduceBEq, decide_true, decide_false, ld2, ld3, ld9, ld26, ld28, fa26_0, fa26_1, fa26_2, aggV, eql26, neq26, bin_eql_bool u4, ra8, rb8, wneg, hz', e1, qX, qN] <;> with_reducible rfl))
      with_reducible refine Tl.gd3_on ?_
      with_reducible refine Tl.call S8 (f16c (k := k + 7) 4 a b h8) fun h9 S9 _ => ?_
      have ra9 := row_at (i := 2) S9 rfl
      have rb9 := row_at (i := 1) S9 rfl
      repeat (with_reducible apply Tl.val; focus (simp only [bnd_some, bin_add, bin_sub, bin_mul, bin_lss, bin_leq, bin_gtr, bin_geq, bin_eql, bin_neq, un_not, un_neg, goInt, gd_tt, gd_ff, gd_tf, gd_ft, gd_sk, gd3_tt, gd3_ff, gd3_tf, gd3_ft, gd3_sk, Option.map_some, lt_some, pick_t, pick_f, Nat.zero_add, Bool.not_true, Bool.not_false, Bool.true_and, Bool.false_and, Bool.and_true, Bool.and_false, cond_true, cond_false, beq_self_eq_true, Int.reduceBEq, decide_true, decide_false, ld2, ld3, ld9, ld26, ld28, fa26_0, fa26_1, fa26_2, aggV, eql26, neq26, bin_eql_bool u4, ra9, rb9] <;> with_reducible rfl))
      with_reducible refine Tl.gd3_on ?_
      with_reducible refine Tl.call S9 (f16c (k := k + 7) 3 a b h9) fun h10 S10 _ => ?_
      have ra10 := row_at (i := 2) S10 rfl
      have rb10 := row_at (i := 1) S10 rfl
      rcases hI3 with ⟨q3, hI'⟩ | ⟨q3, hI'⟩
      · rw [q3]
        repeat (with_reducible apply Tl.val; focus (simp only [bnd_some, bin_add, bin_sub, bin_mul, bin_lss, bin_leq, bin_gtr, bin_geq, bin_eql, bin_neq, un_not, un_neg, goInt, gd_tt, gd_ff, gd_tf, gd_ft, gd_sk, gd3_tt, gd3_ff, gd3_tf, gd3_ft, gd3_sk, Option.map_some, lt_some, pick_t, pick_f, Nat.zero_add, Bool.not_true, Bool.not_false, Bool.true_and, Bool.false_and, Bool.and_true, Bool.and_false, cond_true, cond_false, beq_self_eq_true, Int.reduceBEq, decide_true, decide_false, ld2, ld3, ld9, ld26, ld28, fa26_0, fa26_1, fa26_2, aggV, eql26, neq26, bin_eql_bool u4, ra10, rb10, hI', bin_eql_bool u4] <;> with_reducible rfl))
        with_reducible refine Tl.gd3_on ?_
        with_reducible refine Tl.call S10 (f16c (k := k + 7) 5 a b h10) fun h12 S12 _ => ?_
        have ra12 := row_at (i := 2) S12 rfl
        have rb12 := row_at (i := 1) S12 rfl
        repeat (with_reducible apply Tl.val; focus (simp only [bnd_some, bin_add, bin_sub, bin_mul, bin_lss, bin_leq, bin_gtr, bin_geq, bin_eql, bin_neq, un_not, un_neg, goInt, gd_tt, gd_ff, gd_tf, gd_ft, gd_sk, gd3_tt, gd3_ff, gd3_tf, gd3_ft, gd3_sk, Option.map_some, lt_some, pick_t, pick_f, Nat.zero_add, Bool.not_true, Bool.not_false, Bool.true_and, Bool.false_and, Bool.and_true, Bool.and_false, cond_true, cond_false, beq_self_eq_true, Int.reduceBEq, decide_true, decide_false, ld2, ld3, ld9, ld26, ld28, fa26_0, fa26_1, fa26_2, aggV, eql26, neq26, bin_eql_bool u4, ra12, rb12] <;> with_reducible rfl))
        with_reducible refine Tl.gd3_on ?_
        with_reducible refine Tl.call S12 (f16c (k := k + 7) 3 b a h12) fun h13 S13 _ => ?_
        repeat (with_reducible apply Tl.val; focus (simp only [bnd_some, bin_add, bin_sub, bin_mul, bin_lss, bin_leq, bin_gtr, bin_geq, bin_eql, bin_neq, un_not, un_neg, goInt, gd_tt, gd_ff, gd_tf, gd_ft, gd_sk, gd3_tt, gd3_ff, gd3_tf, gd3_ft, gd3_sk, Option.map_some, lt_some, pick_t, pick_f, Nat.zero_add, Bool.not_true, Bool.not_false, Bool.true_and, Bool.false_and, Bool.and_true, Bool.and_false, cond_true, cond_false, beq_self_eq_true, Int.reduceBEq, decide_true, decide_false, ld2, ld3, ld9, ld26, ld28, fa26_0, fa26_1, fa26_2, aggV, eql26, neq26, bin_eql_bool u4, hJ, bin_eql_bool u4] <;> with_reducible rfl))
        with_reducible refine Tl.chk ?_ ?_
        · simp only [ld26, ra8, rb8, ra9, rb9, ra10, rb10, ra12, rb12, Option.map_some, aggV, sameO_some, sameC, Bool.and_self, Bool.not_true, Bool.not_false, Bool.or_true, Bool.true_or, Bool.true_and, Bool.false_or]
        exact ⟨_, rfl, rfl⟩
      · rw [q3]
        repeat (with_reducible apply Tl.val; focus (simp only [bnd_some, bin_add, bin_sub, bin_mul, bin_lss, bin_leq, bin_gtr, bin_geq, bin_eql, bin_neq, un_not, un_neg, goInt, gd_tt, gd_ff, gd_tf, gd_ft, gd_sk, gd3_tt, gd3_ff, gd3_tf, gd3_ft, gd3_sk, Option.map_some, lt_some, pick_t, pick_f, Nat.zero_add, Bool.not_true, Bool.not_false, Bool.true_and, Bool.false_and, Bool.and_true, Bool.and_false, cond_true, cond_false, beq_self_eq_true, Int.reduceBEq, decide_true, decide_false, ld2, ld3, ld9, ld26, ld28, fa26_0, fa26_1, fa26_2, aggV, eql26, neq26, bin_eql_bool u4, ra10, rb10, hI', bin_eql_bool u4] <;> with_reducible rfl))
        with_reducible refine Tl.gd3_on ?_
        with_reducible refine Tl.call S10 (f16c (k := k + 7) 1 a b h10) fun h11 S11 _ => ?_
        have ra11 := row_at (i := 2) S11 rfl
        have rb11 := row_at (i := 1) S11 rfl
        repeat (with_reducible apply Tl.val; focus (simp only [bnd_some, bin_add, bin_sub, bin_mul, bin_lss, bin_leq, bin_gtr, bin_geq, bin_eql, bin_neq, un_not, un_neg, goInt, gd_tt, gd_ff, gd_tf, gd_ft, gd_sk, gd3_tt, gd3_ff, gd3_tf, gd3_ft, gd3_sk, Option.map_some, lt_some, pick_t, pick_f, Nat.zero_add, Bool.not_true, Bool.not_false, Bool.true_and, Bool.false_and, Bool.and_true, Bool.and_false, cond_true, cond_false, beq_self_eq_true, Int.reduceBEq, decide_true, decide_false, ld2, ld3, ld9, ld26, ld28, fa26_0, fa26_1, fa26_2, aggV, eql26, neq26, bin_eql_bool u4, ra11, rb11, hI', bin_eql_bool u4] <;> with_reducible rfl))
        with_reducible refine Tl.gd3_on ?_
        with_reducible refine Tl.call S11 (f16c (k := k + 7) 5 a b h11) fun h12 S12 _ => ?_
        have ra12 := row_at (i := 2) S12 rfl
        have rb12 := row_at (i := 1) S12 rfl
        repeat (with_reducible apply Tl.val; focus (simp only [bnd_some, bin_add, bin_sub, bin_mul, bin_lss, bin_leq, bin_gtr, bin_geq, bin_eql, bin_neq, un_not, un_neg, goInt, gd_tt, gd_ff, gd_tf, gd_ft, gd_sk, gd3_tt, gd3_ff, gd3_tf, gd3_ft, gd3_sk, Option.map_some, lt_some, pick_t, pick_f, Nat.zero_add, Bool.not_true, Bool.not_false, Bool.true_and, Bool.false_and, Bool.and_true, Bool.and_false, cond_true, cond_false, beq_self_eq_true, Int.reduceBEq, decide_true, decide_false, ld2, ld3, ld9, ld26, ld28, fa26_0, fa26_1, fa26_2, aggV, eql26, neq26, bin_eql_bool u4, ra12, rb12] <;> with_reducible rfl))
        with_reducible refine Tl.gd3_on ?_
        with_reducible refine Tl.call S12 (f16c (k := k + 7) 3 b a h12) fun h13 S13 _ => ?_
        repeat (with_reducible apply Tl.val; focus (simp only [bnd_some, bin_add, bin_sub, bin_mul, bin_lss, bin_leq, bin_gtr, bin_geq, bin_eql, bin_neq, un_not, un_neg, goInt, gd_tt, gd_ff, gd_tf, gd_ft, gd_sk, gd3_tt, gd3_ff, gd3_tf, gd3_ft, gd3_sk, Option.map_some, lt_some, pick_t, pick_f, Nat.zero_add, Bool.not_true, Bool.not_false, Bool.true_and, Bool.false_and, Bool.and_true, Bool.and_false, cond_true, cond_false, beq_self_eq_true, Int.reduceBEq, decide_true, decide_false, ld2, ld3, ld9, ld26, ld28, fa26_0, fa26_1, fa26_2, aggV, eql26, neq26, bin_eql_bool u4, hJ, bin_eql_bool u4] <;> with_reducible rfl))
        with_reducible refine Tl.chk ?_ ?_
        · simp only [ld26, ra8, rb8, ra9, rb9, ra10, rb10, ra12, rb12, ra11, rb11, Option.map_some, aggV, sameO_some, sameC, Bool.and_self, Bool.not_true, Bool.not_false, Bool.or_true, Bool.true_or, Bool.true_and, Bool.false_or]
        exact ⟨_, rfl, rfl⟩
  · cases e2 : (a.k != 0)
    · skip
      cases qX : decide (a.cmp b > 0)
      · cases qY : decide (b.cmp c > 0)
        · have qZ : decide (a.cmp c ≤ 0) = true := by simp at qX qY; simpa using tZ (by omega) (by omega)
          cases qN : (a.cmp b != 0)
          · have qE : (a.cmp c == b.cmp c) = true := by simp at qN; rw [tE qN]; simp
            repeat (with_reducible apply Tl.val; focus (simp only [bnd_some, bin_add, bin_sub, bin_mul, bin_lss, bin_leq, bin_gtr, bin_geq, bin_eql, bin_neq, un_not, un_neg, goInt, gd_tt, gd_ff, gd_tf, gd_ft, gd_sk, gd3_tt, gd3_ff, gd3_tf, gd3_ft, gd3_sk, Option.map_some, lt_some, pick_t, pick_f, Nat.zero_add, Bool.not_true, Bool.not_false, Bool.true_and, Bool.false_and, Bool.and_true, Bool.and_false, cond_true, cond_false, beq_self_eq_true, Int.reduceBEq, decide_true, decide_false, ld2, ld3, ld9, ld26, ld28, fa26_0, fa26_1, fa26_2, aggV, eql26, neq26, bin_eql_bool u4, ka7, kb7, ra7, rb7, e1, e2, qX, qY, qZ, qN, qE] <;> with_reducible rfl))
            with_reducible refine Tl.call S7 (f15c (k := k + 9) b a h7) fun h8 S8 _ => ?_
            have ra8 := row_at (i := 2) S8 rfl
            have rb8 := row_at (i := 1) S8 rfl
            repeat (with_reducible apply Tl.val; focus (simp only [bnd_some, bin_add, bin_sub, bin_mul, bin_lss, bin_leq, bin_gtr, bin_geq, bin_eql, bin_neq, un_not, un_neg, goInt, gd_tt, gd_ff, gd_tf, gd_ft, gd_sk, gd3_tt, gd3_ff, gd3_tf, gd3_ft, gd3_sk, Option.map_some, lt_some, pick_t, pick_f, Nat.zero_add, Bool.not_true, Bool.not_false, Bool.true_and, Bool.false_and, Bool.and_true, Bool.and_false, cond_true, cond_false, beq_self_eq_true, Int.reduceBEq, decide_true, decide_false, ld2, ld3, ld9, ld26, ld28, fa26_0, fa26_1, fa26_2, aggV, eql26, neq26, bin_eql_bool u4, ra8, rb8, wneg, hz', e1, e2, qX, qY, qZ, qN, qE] <;> with_reducible rfl))
            with_reducible refine Tl.gd3_on ?_
            with_reducible refine Tl.call S8 (f16c (k := k + 7) 4 a b h8) fun h9 S9 _ => ?_
            have ra9 := row_at (i := 2) S9 rfl
            have rb9 := row_at (i := 1) S9 rfl
            repeat (with_reducible apply Tl.val; focus (simp only [bnd_some, bin_add, bin_sub, bin_mul, bin_lss, bin_leq, bin_gtr, bin_geq, bin_eql, bin_neq, un_not, un_neg, goInt, gd_tt, gd_ff, gd_tf, gd_ft, gd_sk, gd3_tt, gd3_ff, gd3_tf, gd3_ft, gd3_sk, Option.map_some, lt_some, pick_t, pick_f, Nat.zero_add, Bool.not_true, Bool.not_false, Bool.true_and, Bool.false_and, Bool.and_true, Bool.and_false, cond_true, cond_false, beq_self_eq_true, Int.reduceBEq, decide_true, decide_false, ld2, ld3, ld9, ld26, ld28, fa26_0, fa26_1, fa26_2, aggV, eql26, neq26, bin_eql_bool u4, ra9, rb9] <;> with_reducible rfl))
            with_reducible refine Tl.gd3_on ?_
            with_reducible refine Tl.call S9 (f16c (k := k + 7) 3 a b h9) fun h10 S10 _ => ?_
            have ra10 := row_at (i := 2) S10 rfl
            have rb10 := row_at (i := 1) S10 rfl
            rcases hI3 with ⟨q3, hI'⟩ | ⟨q3, hI'⟩
            · rw [q3]
              repeat (with_reducible apply Tl.val; focus (simp only [bnd_some, bin_add, bin_sub, bin_mul, bin_lss, bin_leq, bin_gtr, bin_geq, bin_eql, bin_neq, un_not, un_neg, goInt, gd_tt, gd_ff, gd_tf, gd_ft, gd_sk, gd3_tt, gd3_ff, gd3_tf, gd3_ft, gd3_sk, Option.map_some, lt_some, pick_t, pick_f, Nat.zero_add, Bool.not_true, Bool.not_false, Bool.true_and, Bool.false_and, Bool.and_true, Bool.and_false, cond_true, cond_false, beq_self_eq_true, Int.reduceBEq, decide_true, decide_false, ld2, ld3, ld9, ld26, ld28, fa26_0, fa26_1, fa26_2, aggV, eql26, neq26, bin_eql_bool u4, ra10, rb10, hI', bin_eql_bool u4] <;> with_reducible rfl))
              with_reducible refine Tl.gd3_on ?_
              with_reducible refine Tl.call S10 (f16c (k := k + 7) 5 a b h10) fun h12 S12 _ => ?_
              have ra12 := row_at (i := 2) S12 rfl
              have rb12 := row_at (i := 1) S12 rfl
              repeat (with_reducible apply Tl.val; focus (simp only [bnd_some, bin_add, bin_sub, bin_mul, bin_lss, bin_leq, bin_gtr, bin_geq, bin_eql, bin_neq, un_not, un_neg, goInt, gd_tt, gd_ff, gd_tf, gd_ft, gd_sk, gd3_tt, gd3_ff, gd3_tf, gd3_ft, gd3_sk, Option.map_some, lt_some, pick_t, pick_f, Nat.zero_add, Bool.not_true, Bool.not_false, Bool.true_and, Bool.false_and, Bool.and_true, Bool.and_false, cond_true, cond_false, beq_self_eq_true, Int.reduceBEq, decide_true, decide_false, ld2, ld3, ld9, ld26, ld28, fa26_0, fa26_1, fa26_2, aggV, eql26, neq26, bin_eql_bool u4, ra12, rb12] <;> with_reducible rfl))
              with_reducible refine Tl.gd3_on ?_
              with_reducible refine Tl.call S12 (f16c (k := k + 7) 3 b a h12) fun h13 S13 _ => ?_
              repeat (with_reducible apply Tl.val; focus (simp only [bnd_some, bin_add, bin_sub, bin_mul, bin_lss, bin_leq, bin_gtr, bin_geq, bin_eql, bin_neq, un_not, un_neg, goInt, gd_tt, gd_ff, gd_tf, gd_ft, gd_sk, gd3_tt, gd3_ff, gd3_tf, gd3_ft, gd3_sk, Option.map_some, lt_some, pick_t, pick_f, Nat.zero_add, Bool.not_true, Bool.not_false, Bool.true_and, Bool.false_and, Bool.and_true, Bool.and_false, cond_true, cond_false, beq_self_eq_true, Int.reduceBEq, decide_true, decide_false, ld2, ld3, ld9, ld26, ld28, fa26_0, fa26_1, fa26_2, aggV, eql26, neq26, bin_eql_bool u4, hJ, bin_eql_bool u4] <;> with_reducible rfl))
              with_reducible refine Tl.chk ?_ ?_
              · simp only [ld26, ra8, rb8, ra9, rb9, ra10, rb10, ra12, rb12, Option.map_some, aggV, sameO_some, sameC, Bool.and_self, Bool.not_true, Bool.not_false, Bool.or_true, Bool.true_or, Bool.true_and, Bool.false_or]
              exact ⟨_, rfl, rfl⟩
            · rw [q3]
              repeat (with_reducible apply Tl.val; focus (simp only [bnd_some, bin_add, bin_sub, bin_mul, bin_lss, bin_leq, bin_gtr, bin_geq, bin_eql, bin_neq, un_not, un_neg, goInt, gd_tt, gd_ff, gd_tf, gd_ft, gd_sk, gd3_tt, gd3_ff, gd3_tf, gd3_ft, gd3_sk, Option.map_some, lt_some, pick_t, pick_f, Nat.zero_add, Bool.not_true, Bool.not_false, Bool.true_and, Bool.false_and, Bool.and_true, Bool.and_false, cond_true, cond_false, beq_self_eq_true, Int.reduceBEq, decide_true, decide_false, ld2, ld3, ld9, ld26, ld28, fa26_0, fa26_1, fa26_2, aggV, eql26, neq26, bin_eql_bool u4, ra10, rb10, hI', bin_eql_bool u4] <;> with_reducible rfl))
              with_reducible refine Tl.gd3_on ?_
              with_reducible refine Tl.call S10 (f16c (k := k + 7) 1 a b h10) fun h11 S11 _ => ?_
              have ra11 := row_at (i := 2) S11 rfl
              have rb11 := row_at (i := 1) S11 rfl
              repeat (with_reducible apply Tl.val; focus (simp only [bnd_some, bin_add, bin_sub, bin_mul, bin_lss, bin_leq, bin_gtr, bin_geq, bin_eql, bin_neq, un_not, un_neg, goInt, gd_tt, gd_ff, gd_tf, gd_ft, gd_sk, gd3_tt, gd3_ff, gd3_tf, gd3_ft, gd3_sk, Option.map_some, lt_some, pick_t, pick_f, Nat.zero_add, Bool.not_true, Bool.not_false, Bool.true_and, Bool.false_and, Bool.and_true, Bool.and_false, cond_true, cond_false, beq_self_eq_true, Int.reduceBEq, decide_true, decide_false, ld2, ld3, ld9, ld26, ld28, fa26_0, fa26_1, fa26_2, aggV, eql26, neq26, bin_eql_bool u4, ra11, rb11, hI', bin_eql_bool u4] <;> with_reducible rfl))
              with_reducible refine Tl.gd3_on ?_
              with_reducible refine Tl.call S11 (f16c (k := k + 7) 5 a b h11) fun h12 S12 _ => ?_
              have ra12 := row_at (i := 2) S12 rfl
              have rb12 := row_at (i := 1) S12 rfl
              repeat (with_reducible apply Tl.val; focus (simp only [bnd_some, bin_add, bin_sub, bin_mul, bin_lss, bin_leq, bin_gtr, bin_geq, bin_eql, bin_neq, un_not, un_neg, goInt, gd_tt, gd_ff, gd_tf, gd_ft, gd_sk, gd3_tt, gd3_ff, gd3_tf, gd3_ft, gd3_sk, Option.map_some, lt_some, pick_t, pick_f, Nat.zero_add, Bool.not_true, Bool.not_false, Bool.true_and, Bool.false_and, Bool.and_true, Bool.and_false, cond_true, cond_false, beq_self_eq_true, Int.reduceBEq, decide_true, decide_false, ld2, ld3, ld9, ld26, ld28, fa26_0, fa26_1, fa26_2, aggV, eql26, neq26, bin_eql_bool u4, ra12, rb12] <;> with_reducible rfl))
              with_reducible refine Tl.gd3_on ?_
              with_reducible refine Tl.call S12 (f16c (k := k + 7) 3 b a h12) fun h13 S13 _ => ?_
              repeat (with_reducible apply Tl.val; focus (simp only [bnd_some, bin_add, bin_sub, bin_mul, bin_lss, bin_leq, bin_gtr, bin_geq, bin_eql, bin_neq, un_not, un_neg, goInt, gd_tt, gd_ff, gd_tf, gd_ft, gd_sk, gd3_tt, gd3_ff, gd3_tf, gd3_ft, gd3_sk, Option.map_some, lt_some, pick_t, pick_f, Nat.zero_add, Bool.not_true, Bool.not_false, Bool.true_and, Bool.false_and, Bool.and_true, Bool.and_false, cond_true, cond_false, beq_self_eq_true, Int.reduceBEq, decide_true, decide_false, ld2, ld3, ld9, ld26, ld28, fa26_0, fa26_1, fa26_2, aggV, eql26, neq26, bin_eql_bool u4, hJ, bin_eql_bool u4] <;> with_reducible rfl))
              with_reducible refine Tl.chk ?_ ?_
              · simp only [ld26, ra8, rb8, ra9, rb9, ra10, rb10, ra12, rb12, ra11, rb11, Option.map_some, aggV, sameO_some, sameC, Bool.and_self, Bool.not_true, Bool.not_false, Bool.or_true, Bool.true_or, Bool.true_and, Bool.false_or]
              exact ⟨_, rfl, rfl⟩
          ·
            repeat (with_reducible apply Tl.val; focus (simp only [bnd_some, bin_add, bin_sub, bin_mul, bin_lss, bin_leq, bin_gtr, bin_geq, bin_eql, bin_neq, un_not, un_neg, goInt, gd_tt, gd_ff, gd_tf, gd_ft, gd_sk, gd3_tt, gd3_ff, gd3_tf, gd3_ft, gd3_sk, Option.map_some, lt_some, pick_t, pick_f, Nat.zero_add, Bool.not_true, Bool.not_false, Bool.true_and, Bool.false_and, Bool.and_true, Bool.and_false, cond_true, cond_false, beq_self_eq_true, Int.reduceBEq, decide_true, decide_false, ld2, ld3, ld9, ld26, ld28, fa26_0, fa26_1, fa26_2, aggV, eql26, neq26, bin_eql_bool u4, ka7, kb7, ra7, rb7, e1, e2, qX, qY, qZ, qN] <;> with_reducible rfl))
            with_reducible refine Tl.call S7 (f15c (k := k + 9) b a h7) fun h8 S8 _ => ?_
            have ra8 := row_at (i := 2) S8 rfl
            have rb8 := row_at (i := 1) S8 rfl
            repeat (with_reducible apply Tl.val; focus (simp only [bnd_some, bin_add, bin_sub, bin_mul, bin_lss, bin_leq, bin_gtr, bin_geq, bin_eql, bin_neq, un_not, un_neg, goInt, gd_tt, gd_ff, gd_tf, gd_ft, gd_sk, gd3_tt, gd3_ff, gd3_tf, gd3_ft, gd3_sk, Option.map_some, lt_some, pick_t, pick_f, Nat.zero_add, Bool.not_true, Bool.not_false, Bool.true_and, Bool.false_and, Bool.and_true, Bool.and_false, cond_true, cond_false, beq_self_eq_true, Int.reduceBEq, decide_true, decide_false, ld2, ld3, ld9, ld26, ld28, fa26_0, fa26_1, fa26_2, aggV, eql26, neq26, bin_eql_bool u4, ra8, rb8, wneg, hz', e1, e2, qX, qY, qZ, qN] <;> with_reducible rfl))
            with_reducible refine Tl.gd3_on ?_
            with_reducible refine Tl.call S8 (f16c (k := k + 7) 4 a b h8) fun h9 S9 _ => ?_
            have ra9 := row_at (i := 2) S9 rfl
            have rb9 := row_at (i := 1) S9 rfl
            repeat (with_reducible apply Tl.val; focus (simp only [bnd_some, bin_add, bin_sub, bin_mul, bin_lss, bin_leq, bin_gtr, bin_geq, bin_eql, bin_neq, un_not, un_neg, goInt, gd_tt, gd_ff, gd_tf, gd_ft, gd_sk, gd3_tt, gd3_ff, gd3_tf, gd3_ft, gd3_sk, Option.map_some, lt_some, pick_t, pick_f, Nat.zero_add, Bool.not_true, Bool.not_false, Bool.true_and, Bool.false_and, Bool.and_true, Bool.and_false, cond_true, cond_false, beq_self_eq_true, Int.reduceBEq, decide_true, decide_false, ld2, ld3, ld9, ld26, ld28, fa26_0, fa26_1, fa26_2, aggV, eql26, neq26, bin_eql_bool u4, ra9, rb9] <;> with_reducible rfl))
            with_reducible refine Tl.gd3_on ?_
            with_reducible refine Tl.call S9 (f16c (k := k + 7) 3 a b h9) fun h10 S10 _ => ?_
            have ra10 := row_at (i := 2) S10 rfl
            have rb10 := row_at (i := 1) S10 rfl
            rcases hI3 with ⟨q3, hI'⟩ | ⟨q3, hI'⟩
            · rw [q3]
              repeat (with_reducible apply Tl.val; focus (simp only [bnd_some, bin_add, bin_sub, bin_mul, bin_lss, bin_leq, bin_gtr, bin_geq, bin_eql, bin_neq, un_not, un_neg, goInt, gd_tt, gd_ff, gd_tf, gd_ft, gd_sk, gd3_tt, gd3_ff, gd3_tf, gd3_ft, gd3_sk, Option.map_some, lt_some, pick_t, pick_f, Nat.zero_add, Bool.not_true, Bool.not_false, Bool.true_and, Bool.false_and, Bool.and_true, Bool.and_false, cond_true, cond_false, beq_self_eq_true, Int.reduceBEq, decide_true, decide_false, ld2, ld3, ld9, ld26, ld28, fa26_0, fa26_1, fa26_2, aggV, eql26, neq26, bin_eql_bool u4, ra10, rb10, hI', bin_eql_bool u4] <;> with_reducible rfl))
              with_reducible refine Tl.gd3_on ?_
              with_reducible refine Tl.call S10 (f16c (k := k + 7) 5 a b h10) fun h12 S12 _ => ?_
              have ra12 := row_at (i := 2) S12 rfl
              have rb12 := row_at (i := 1) S12 rfl
              repeat (with_reducible apply Tl.val; focus (simp only [bnd_some, bin_add, bin_sub, bin_mul, bin_lss, bin_leq, bin_gtr, bin_geq, bin_eql, bin_neq, un_not, un_neg, goInt, gd_tt, gd_ff, gd_tf, gd_ft, gd_sk, gd3_tt, gd3_ff, gd3_tf, gd3_ft, gd3_sk, Option.map_some, lt_some, pick_t, pick_f, Nat.zero_add, Bool.not_true, Bool.not_false, Bool.true_and, Bool.false_and, Bool.and_true, Bool.and_false, cond_true, cond_false, beq_self_eq_true, Int.reduceBEq, decide_true, decide_false, ld2, ld3, ld9, ld26, ld28, fa26_0, fa26_1, fa26_2, aggV, eql26, neq26, bin_eql_bool u4, ra12, rb12] <;> with_reducible rfl))
              with_reducible refine Tl.gd3_on ?_
              with_reducible refine Tl.call S12 (f16c (k := k + 7) 3 b a h12) fun h13 S13 _ => ?_
              repeat (with_reducible apply Tl.val; focus (simp only [bnd_some, bin_add, bin_sub, bin_mul, bin_lss, bin_leq, bin_gtr, bin_geq, bin_eql, bin_neq, un_not, un_neg, goInt, gd_tt, gd_ff, gd_tf, gd_ft, gd_sk, gd3_tt, gd3_ff, gd3_tf, gd3_ft, gd3_sk, Option.map_some, lt_some, pick_t, pick_f, Nat.zero_add, Bool.not_true, Bool.not_false, Bool.true_and, Bool.false_and, Bool.and_true, Bool.and_false, cond_true, cond_false, beq_self_eq_true, Int.reduceBEq, decide_true, decide_false, ld2, ld3, ld9, ld26, ld28, fa26_0, fa26_1, fa26_2, aggV, eql26, neq26, bin_eql_bool u4, hJ, bin_eql_bool u4] <;> with_reducible rfl))
              with_reducible refine Tl.chk ?_ ?_
              · simp only [ld26, ra8, rb8, ra9, rb9, ra10, rb10, ra12, rb12, Option.map_some, aggV, sameO_some, sameC, Bool.and_self, Bool.not_true, Bool.not_false, Bool.or_true, Bool.true_or, Bool.true_and, Bool.false_or]
              exact ⟨_, rfl, rfl⟩
            · rw [q3]
              repeat (with_reducible apply Tl.val; focus (simp only [bnd_some, bin_add, bin_sub, bin_mul, bin_lss, bin_leq, bin_gtr, bin_geq, bin_eql, bin_neq, un_not, un_neg, goInt, gd_tt, gd_ff, gd_tf, gd_ft, gd_sk, gd3_tt, gd3_ff, gd3_tf, gd3_ft, gd3_sk, Option.map_some, lt_some, pick_t, pick_f, Nat.zero_add, Bool.not_true, Bool.not_false, Bool.true_and, Bool.false_and, Bool.and_true, Bool.and_false, cond_true, cond_false, beq_self_eq_true, Int.reduceBEq, decide_true, decide_false, ld2, ld3, ld9, ld26, ld28, fa26_0, fa26_1, fa26_2, aggV, eql26, neq26, bin_eql_bool u4, ra10, rb10, hI', bin_eql_bool u4] <;> with_reducible rfl))
              with_reducible refine Tl.gd3_on ?_
              with_reducible refine Tl.call S10 (f16c (k := k + 7) 1 a b h10) fun h11 S11 _ => ?_
              have ra11 := row_at (i := 2) S11 rfl
              have rb11 := row_at (i := 1) S11 rfl
              repeat (with_reducible apply Tl.val; focus (simp only [bnd_some, bin_add, bin_sub, bin_mul, bin_lss, bin_leq, bin_gtr, bin_geq, bin_eql, bin_neq, un_not, un_neg, goInt, gd_tt, gd_ff, gd_tf, gd_ft, gd_sk, gd3_tt, gd3_ff, gd3_tf, gd3_ft, gd3_sk, Option.map_some, lt_some, pick_t, pick_f, Nat.zero_add, Bool.not_true, Bool.not_false, Bool.true_and, Bool.false_and, Bool.and_true, Bool.and_false, cond_true, cond_false, beq_self_eq_true, Int.reduceBEq, decide_true, decide_false, ld2, ld3, ld9, ld26, ld28, fa26_0, fa26_1, fa26_2, aggV, eql26, neq26, bin_eql_bool u4, ra11, rb11, hI', bin_eql_bool u4] <;> with_reducible rfl))
              with_reducible refine Tl.gd3_on ?_
              with_reducible refine Tl.call S11 (f16c (k := k + 7) 5 a b h11) fun h12 S12 _ => ?_
              have ra12 := row_at (i := 2) S12 rfl
              have rb12 := row_at (i := 1) S12 rfl
              repeat (with_reducible apply Tl.val; focus (simp only [bnd_some, bin_add, bin_sub, bin_mul, bin_lss, bin_leq, bin_gtr, bin_geq, bin_eql, bin_neq, un_not, un_neg, goInt, gd_tt, gd_ff, gd_tf, gd_ft, gd_sk, gd3_tt, gd3_ff, gd3_tf, gd3_ft, gd3_sk, Option.map_some, lt_some, pick_t, pick_f, Nat.zero_add, Bool.not_true, Bool.not_false, Bool.true_and, Bool.false_and, Bool.and_true, Bool.and_false, cond_true, cond_false, beq_self_eq_true, Int.reduceBEq, decide_true, decide_false, ld2, ld3, ld9, ld26, ld28, fa26_0, fa26_1, fa26_2, aggV, eql26, neq26, bin_eql_bool u4, ra12, rb12] <;> with_reducible rfl))
              with_reducible refine Tl.gd3_on ?_
              with_reducible refine Tl.call S12 (f16c (k := k + 7) 3 b a h12) fun h13 S13 _ => ?_
              repeat (with_reducible apply Tl.val; focus (simp only [bnd_some, bin_add, bin_sub, bin_mul, bin_lss, bin_leq, bin_gtr, bin_geq, bin_eql, bin_neq, un_not, un_neg, goInt, gd_tt, gd_ff, gd_tf, gd_ft, gd_sk, gd3_tt, gd3_ff, gd3_tf, gd3_ft, gd3_sk, Option.map_some, lt_some, pick_t, pick_f, Nat.zero_add, Bool.not_true, Bool.not_false, Bool.true_and, Bool.false_and, Bool.and_true, Bool.and_false, cond_true, cond_false, beq_self_eq_true, Int.reduceBEq, decide_true, decide_false, ld2, ld3, ld9, ld26, ld28, fa26_0, fa26_1, fa26_2, aggV, eql26, neq26, bin_eql_bool u4, hJ, bin_eql_bool u4] <;> with_reducible rfl))
              with_reducible refine Tl.chk ?_ ?_
              · simp only [ld26, ra8, rb8, ra9, rb9, ra10, rb10, ra12, rb12, ra11, rb11, Option.map_some, aggV, sameO_some, sameC, Bool.and_self, Bool.not_true, Bool.not_false, Bool.or_true, Bool.true_or, Bool.true_and, Bool.false_or]
              exact ⟨_, rfl, rfl⟩
        · cases qN : (a.cmp b != 0)
          · have qE : (a.cmp c == b.cmp c) = true := by simp at qN; rw [tE qN]; simp
            repeat (with_reducible apply Tl.val; focus (simp only [bnd_some, bin_add, bin_sub, bin_mul, bin_lss, bin_leq, bin_gtr, bin_geq, bin_eql, bin_neq, un_not, un_neg, goInt, gd_tt, gd_ff, gd_tf, gd_ft, gd_sk, gd3_tt, gd3_ff, gd3_tf, gd3_ft, gd3_sk, Option.map_some, lt_some, pick_t, pick_f, Nat.zero_add, Bool.not_true, Bool.not_false, Bool.true_and, Bool.false_and, Bool.and_true, Bool.and_false, cond_true, cond_false, beq_self_eq_true, Int.reduceBEq, decide_true, decide_false, ld2, ld3, ld9, ld26, ld28, fa26_0, fa26_1, fa26_2, aggV, eql26, neq26, bin_eql_bool u4, ka7, kb7, ra7, rb7, e1, e2, qX, qY, qN, qE] <;> with_reducible rfl))
            with_reducible refine Tl.call S7 (f15c (k := k + 9) b a h7) fun h8 S8 _ => ?_
            have ra8 := row_at (i := 2) S8 rfl
            have rb8 := row_at (i := 1) S8 rfl
            repeat (with_reducible apply Tl.val; focus (simp only [bnd_some, bin_add, bin_sub, bin_mul, bin_lss, bin_leq, bin_gtr, bin_geq, bin_eql, bin_neq, un_not, un_neg, goInt, gd_tt, gd_ff, gd_tf, gd_ft, gd_sk, gd3_tt, gd3_ff, gd3_tf, gd3_ft, gd3_sk, Option.map_some, lt_some, pick_t, pick_f, Nat.zero_add, Bool.not_true, Bool.not_false, Bool.true_and, Bool.false_and, Bool.and_true, Bool.and_false, cond_true, cond_false, beq_self_eq_true, Int.reduceBEq, decide_true, decide_false, ld2, ld3, ld9, ld26, ld28, fa26_0, fa26_1, fa26_2, aggV, eql26, neq26, bin_eql_bool u4, ra8, rb8, wneg, hz', e1, e2, qX, qY, qN, qE] <;> with_reducible rfl))
            with_reducible refine Tl.gd3_on ?_
            with_reducible refine Tl.call S8 (f16c (k := k + 7) 4 a b h8) fun h9 S9 _ => ?_
            have ra9 := row_at (i := 2) S9 rfl
            have rb9 := row_at (i := 1) S9 rfl
            repeat (with_reducible apply Tl.val; focus (simp only [bnd_some, bin_add, bin_sub, bin_mul, bin_lss, bin_leq, bin_gtr, bin_geq, bin_eql, bin_neq, un_not, un_neg, goInt, gd_tt, gd_ff, gd_tf, gd_ft, gd_sk, gd3_tt, gd3_ff, gd3_tf, gd3_ft, gd3_sk, Option.map_some, lt_some, pick_t, pick_f, Nat.zero_add, Bool.not_true, Bool.not_false, Bool.true_and, Bool.false_and, Bool.and_true, Bool.and_false, cond_true, cond_false, beq_self_eq_true, Int.reduceBEq, decide_true, decide_false, ld2, ld3, ld9, ld26, ld28, fa26_0, fa26_1, fa26_2, aggV, eql26, neq26, bin_eql_bool u4, ra9, rb9] <;> with_reducible rfl))
            with_reducible refine Tl.gd3_on ?_
            with_reducible refine Tl.call S9 (f16c (k := k + 7) 3 a b h9) fun h10 S10 _ => ?_
            have ra10 := row_at (i := 2) S10 rfl
            have rb10 := row_at (i := 1) S10 rfl
            rcases hI3 with ⟨q3, hI'⟩ | ⟨q3, hI'⟩
            · rw [q3]
              repeat (with_reducible apply Tl.val; focus (simp only [bnd_some, bin_add, bin_sub, bin_mul, bin_lss, bin_leq, bin_gtr, bin_geq, bin_eql, bin_neq, un_not, un_neg, goInt, gd_tt, gd_ff, gd_tf, gd_ft, gd_sk, gd3_tt, gd3_ff, gd3_tf, gd3_ft, gd3_sk, Option.map_some, lt_some, pick_t, pick_f, Nat.zero_add, Bool.not_true, Bool.not_false, Bool.true_and, Bool.false_and, Bool.and_true, Bool.and_false, cond_true, cond_false, beq_self_eq_true, Int.reduceBEq, decide_true, decide_false, ld2, ld3, ld9, ld26, ld28, fa26_0, fa26_1, fa26_2, aggV, eql26, neq26, bin_eql_bool u4, ra10, rb10, hI', bin_eql_bool u4] <;> with_reducible rfl))
              with_reducible refine Tl.gd3_on ?_
              with_reducible refine Tl.call S10 (f16c (k := k + 7) 5 a b h10) fun h12 S12 _ => ?_
              have ra12 := row_at (i := 2) S12 rfl
              have rb12 := row_at (i := 1) S12 rfl
              repeat (with_reducible apply Tl.val; focus (simp only [bnd_some, bin_add, bin_sub, bin_mul, bin_lss, bin_leq, bin_gtr, bin_geq, bin_eql, bin_neq, un_not, un_neg, goInt, gd_tt, gd_ff, gd_tf, gd_ft, gd_sk, gd3_tt, gd3_ff, gd3_tf, gd3_ft, gd3_sk, Option.map_some, lt_some, pick_t, pick_f, Nat.zero_add, Bool.not_true, Bool.not_false, Bool.true_and, Bool.false_and, Bool.and_true, Bool.and_false, cond_true, cond_false, beq_self_eq_true, Int.reduceBEq, decide_true, decide_false, ld2, ld3, ld9, ld26, ld28, fa26_0, fa26_1, fa26_2, aggV, eql26, neq26, bin_eql_bool u4, ra12, rb12] <;> with_reducible rfl))
              with_reducible refine Tl.gd3_on ?_
              with_reducible refine Tl.call S12 (f16c (k := k + 7) 3 b a h12) fun h13 S13 _ => ?_
              repeat (with_reducible apply Tl.val; focus (simp only [bnd_some, bin_add, bin_sub, bin_mul, bin_lss, bin_leq, bin_gtr, bin_geq, bin_eql, bin_neq, un_not, un_neg, goInt, gd_tt, gd_ff, gd_tf, gd_ft, gd_sk, gd3_tt, gd3_ff, gd3_tf, gd3_ft, gd3_sk, Option.map_some, lt_some, pick_t, pick_f, Nat.zero_add, Bool.not_true, Bool.not_false, Bool.true_and, Bool.false_and, Bool.and_true, Bool.and_false, cond_true, cond_false, beq_self_eq_true, Int.reduceBEq, decide_true, decide_false, ld2, ld3, ld9, ld26, ld28, fa26_0, fa26_1, fa26_2, aggV, eql26, neq26, bin_eql_bool u4, hJ, bin_eql_bool u4] <;> with_reducible rfl))
              with_reducible refine Tl.chk ?_ ?_
              · simp only [ld26, ra8, rb8, ra9, rb9, ra10, rb10, ra12, rb12, Option.map_some, aggV, sameO_some, sameC, Bool.and_self, Bool.not_true, Bool.not_false, Bool.or_true, Bool.true_or, Bool.true_and, Bool.false_or]
              exact ⟨_, rfl, rfl⟩
            · rw [q3]
              repeat (with_reducible apply Tl.val; focus (simp only [bnd_some, bin_add, bin_sub, bin_mul, bin_lss, bin_leq, bin_gtr, bin_geq, bin_eql, bin_neq, un_not, un_neg, goInt, gd_tt, gd_ff, gd_tf, gd_ft, gd_sk, gd3_tt, gd3_ff, gd3_tf, gd3_ft, gd3_sk, Option.map_some, lt_some, pick_t, pick_f, Nat.zero_add, Bool.not_true, Bool.not_false, Bool.true_and, Bool.false_and, Bool.and_true, Bool.and_false, cond_true, cond_false, beq_self_eq_true, Int.reduceBEq, decide_true, decide_false, ld2, ld3, ld9, ld26, ld28, fa26_0, fa26_1, fa26_2, aggV, eql26, neq26, bin_eql_bool u4, ra10, rb10, hI', bin_eql_bool u4] <;> with_reducible rfl))
              with_reducible refine Tl.gd3_on ?_
              with_reducible refine Tl.call S10 (f16c (k := k + 7) 1 a b h10) fun h11 S11 _ => ?_
              have ra11 := row_at (i := 2) S11 rfl
              have rb11 := row_at (i := 1) S11 rfl
              repeat (with_reducible apply Tl.val; focus (simp only [bnd_some, bin_add, bin_sub, bin_mul, bin_lss, bin_leq, bin_gtr, bin_geq, bin_eql, bin_neq, un_not, un_neg, goInt, gd_tt, gd_ff, gd_tf, gd_ft, gd_sk, gd3_tt, gd3_ff, gd3_tf, gd3_ft, gd3_sk, Option.map_some, lt_some, pick_t, pick_f, Nat.zero_add, Bool.not_true, Bool.not_false, Bool.true_and, Bool.false_and, Bool.and_true, Bool.and_false, cond_true, cond_false, beq_self_eq_true, Int.reduceBEq, decide_true, decide_false, ld2, ld3, ld9, ld26, ld28, fa26_0, fa26_1, fa26_2, aggV, eql26, neq26, bin_eql_bool u4, ra11, rb11, hI', bin_eql_bool u4] <;> with_reducible rfl))
              with_reducible refine Tl.gd3_on ?_
              with_reducible refine Tl.call S11 (f16c (k := k + 7) 5 a b h11) fun h12 S12 _ => ?_
              have ra12 := row_at (i := 2) S12 rfl
              have rb12 := row_at (i := 1) S12 rfl
              repeat (with_reducible apply Tl.val; focus (simp only [bnd_some, bin_add, bin_sub, bin_mul, bin_lss, bin_leq, bin_gtr, bin_geq, bin_eql, bin_neq, un_not, un_neg, goInt, gd_tt, gd_ff, gd_tf, gd_ft, gd_sk, gd3_tt, gd3_ff, gd3_tf, gd3_ft, gd3_sk, Option.map_some, lt_some, pick_t, pick_f, Nat.zero_add, Bool.not_true, Bool.not_false, Bool.true_and, Bool.false_and, Bool.and_true, Bool.and_false, cond_true, cond_false, beq_self_eq_true, Int.reduceBEq, decide_true, decide_false, ld2, ld3, ld9, ld26, ld28, fa26_0, fa26_1, fa26_2, aggV, eql26, neq26, bin_eql_bool u4, ra12, rb12] <;> with_reducible rfl))
              with_reducible refine Tl.gd3_on ?_
              with_reducible refine Tl.call S12 (f16c (k := k + 7) 3 b a h12) fun h13 S13 _ => ?_
              repeat (with_reducible apply Tl.val; focus (simp only [bnd_some, bin_add, bin_sub, bin_mul, bin_lss, bin_leq, bin_gtr, bin_geq, bin_eql, bin_neq, un_not, un_neg, goInt, gd_tt, gd_ff, gd_tf, gd_ft, gd_sk, gd3_tt, gd3_ff, gd3_tf, gd3_ft, gd3_sk, Option.map_some, lt_some, pick_t, pick_f, Nat.zero_add, Bool.not_true, Bool.not_false, Bool.true_and, Bool.false_and, Bool.and_true, Bool.and_false, cond_true, cond_false, beq_self_eq_true, Int.reduceBEq, decide_true, decide_false, ld2, ld3, ld9, ld26, ld28, fa26_0, fa26_1, fa26_2, aggV, eql26, neq26, bin_eql_bool u4, hJ, bin_eql_bool u4] <;> with_reducible rfl))
              with_reducible refine Tl.chk ?_ ?_
              · simp only [ld26, ra8, rb8, ra9, rb9, ra10, rb10, ra12, rb12, ra11, rb11, Option.map_some, aggV, sameO_some, sameC, Bool.and_self, Bool.not_true, Bool.not_false, Bool.or_true, Bool.true_or, Bool.true_and, Bool.false_or]
              exact ⟨_, rfl, rfl⟩
          ·
            repeat (with_reducible apply Tl.val; focus (simp only [bnd_some, bin_add, bin_sub, bin_mul, bin_lss, bin_leq, bin_gtr, bin_geq, bin_eql, bin_neq, un_not, un_neg, goInt, gd_tt, gd_ff, gd_tf, gd_ft, gd_sk, gd3_tt, gd3_ff, gd3_tf, gd3_ft, gd3_sk, Option.map_some, lt_some, pick_t, pick_f, Nat.zero_add, Bool.not_true, Bool.not_false, Bool.true_and, Bool.false_and, Bool.and_true, Bool.and_false, cond_true, cond_false, beq_self_eq_true, Int.reduceBEq, decide_true, decide_false, ld2, ld3, ld9, ld26, ld28, fa26_0, fa26_1, fa26_2, aggV, eql26, neq26, bin_eql_bool u4, ka7, kb7, ra7, rb7, e1, e2, qX, qY, qN] <;> with_reducible rfl))
            with_reducible refine Tl.call S7 (f15c (k := k + 9) b a h7) fun h8 S8 _ => ?_
            have ra8 := row_at (i := 2) S8 rfl
            have rb8 := row_at (i := 1) S8 rfl
            repeat (with_reducible apply Tl.val; focus (simp only [bnd_some, bin_add, bin_sub, bin_mul, bin_lss, bin_leq, bin_gtr, bin_geq, bin_eql, bin_neq, un_not, un_neg, goInt, gd_tt, gd_ff, gd_tf, gd_ft, gd_sk, gd3_tt, gd3_ff, gd3_tf, gd3_ft, gd3_sk, Option.map_some, lt_some, pick_t, pick_f, Nat.zero_add, Bool.not_true, Bool.not_false, Bool.true_and, Bool.false_and, Bool.and_true, Bool.and_false, cond_true, cond_false, beq_self_eq_true, Int.reduceBEq, decide_true, decide_false, ld2, ld3, ld9, ld26, ld28, fa26_0, fa26_1, fa26_2, aggV, eql26, neq26, bin_eql_bool u4, ra8, rb8, wneg, hz', e1, e2, qX, qY, qN] <;> with_reducible rfl))
            with_reducible refine Tl.gd3_on ?_
            with_reducible refine Tl.call S8 (f16c (k := k + 7) 4 a b h8) fun h9 S9 _ => ?_
            have ra9 := row_at (i := 2) S9 rfl
            have rb9 := row_at (i := 1) S9 rfl
            repeat (with_reducible apply Tl.val; focus (simp only [bnd_some, bin_add, bin_sub, bin_mul, bin_lss, bin_leq, bin_gtr, bin_geq, bin_eql, bin_neq, un_not, un_neg, goInt, gd_tt, gd_ff, gd_tf, gd_ft, gd_sk, gd3_tt, gd3_ff, gd3_tf, gd3_ft, gd3_sk, Option.map_some, lt_some, pick_t, pick_f, Nat.zero_add, Bool.not_true, Bool.not_false, Bool.true_and, Bool.false_and, Bool.and_true, Bool.and_false, cond_true, cond_false, beq_self_eq_true, Int.reduceBEq, decide_true, decide_false, ld2, ld3, ld9, ld26, ld28, fa26_0, fa26_1, fa26_2, aggV, eql26, neq26, bin_eql_bool u4, ra9, rb9] <;> with_reducible rfl))
            with_reducible refine Tl.gd3_on ?_
            with_reducible refine Tl.call S9 (f16c (k := k + 7) 3 a b h9) fun h10 S10 _ => ?_
            have ra10 := row_at (i := 2) S10 rfl
            have rb10 := row_at (i := 1) S10 rfl
            rcases hI3 with ⟨q3, hI'⟩ | ⟨q3, hI'⟩
            · rw [q3]
              repeat (with_reducible apply Tl.val; focus (simp only [bnd_some, bin_add, bin_sub, bin_mul, bin_lss, bin_leq, bin_gtr, bin_geq, bin_eql, bin_neq, un_not, un_neg, goInt, gd_tt, gd_ff, gd_tf, gd_ft, gd_sk, gd3_tt, gd3_ff, gd3_tf, gd3_ft, gd3_sk, Option.map_some, lt_some, pick_t, pick_f, Nat.zero_add, Bool.not_true, Bool.not_false, Bool.true_and, Bool.false_and, Bool.and_true, Bool.and_false, cond_true, cond_false, beq_self_eq_true, Int.reduceBEq, decide_true, decide_false, ld2, ld3, ld9, ld26, ld28, fa26_0, fa26_1, fa26_2, aggV, eql26, neq26, bin_eql_bool u4, ra10, rb10, hI', bin_eql_bool u4] <;> with_reducible rfl))
              with_reducible refine Tl.gd3_on ?_
              with_reducible refine Tl.call S10 (f16c (k := k + 7) 5 a b h10) fun h12 S12 _ => ?_
              have ra12 := row_at (i := 2) S12 rfl
              have rb12 := row_at (i := 1) S12 rfl
              repeat (with_reducible apply Tl.val; focus (simp only [bnd_some, bin_add, bin_sub, bin_mul, bin_lss, bin_leq, bin_gtr, bin_geq, bin_eql, bin_neq, un_not, un_neg, goInt, gd_tt, gd_ff, gd_tf, gd_ft, gd_sk, gd3_tt, gd3_ff, gd3_tf, gd3_ft, gd3_sk, Option.map_some, lt_some, pick_t, pick_f, Nat.zero_add, Bool.not_true, Bool.not_false, Bool.true_and, Bool.false_and, Bool.and_true, Bool.and_false, cond_true, cond_false, beq_self_eq_true, Int.reduceBEq, decide_true, decide_false, ld2, ld3, ld9, ld26, ld28, fa26_0, fa26_1, fa26_2, aggV, eql26, neq26, bin_eql_bool u4, ra12, rb12] <;> with_reducible rfl))
              with_reducible refine Tl.gd3_on ?_
              with_reducible refine Tl.call S12 (f16c (k := k + 7) 3 b a h12) fun h13 S13 _ => ?_
              repeat (with_reducible apply Tl.val; focus (simp only [bnd_some, bin_add, bin_sub, bin_mul, bin_lss, bin_leq, bin_gtr, bin_geq, bin_eql, bin_neq, un_not, un_neg, goInt, gd_tt, gd_ff, gd_tf, gd_ft, gd_sk, gd3_tt, gd3_ff, gd3_tf, gd3_ft, gd3_sk, Option.map_some, lt_some, pick_t, pick_f, Nat.zero_add, Bool.not_true, Bool.not_false, Bool.true_and, Bool.false_and, Bool.and_true, Bool.and_false, cond_true, cond_false, beq_self_eq_true, Int.reduceBEq, decide_true, decide_false, ld2, ld3, ld9, ld26, ld28, fa26_0, fa26_1, fa26_2, aggV, eql26, neq26, bin_eql_bool u4, hJ, bin_eql_bool u4] <;> with_reducible rfl))
              with_reducible refine Tl.chk ?_ ?_
              · simp only [ld26, ra8, rb8, ra9, rb9, ra10, rb10, ra12, rb12, Option.map_some, aggV, sameO_some, sameC, Bool.and_self, Bool.not_true, Bool.not_false, Bool.or_true, Bool.true_or, Bool.true_and, Bool.false_or]
              exact ⟨_, rfl, rfl⟩
            · rw [q3]
              repeat (with_reducible apply Tl.val; focus (simp only [bnd_some, bin_add, bin_sub, bin_mul, bin_lss, bin_leq, bin_gtr, bin_geq, bin_eql, bin_neq, un_not, un_neg, goInt, gd_tt, gd_ff, gd_tf, gd_ft, gd_sk, gd3_tt, gd3_ff, gd3_tf, gd3_ft, gd3_sk, Option.map_some, lt_some, pick_t, pick_f, Nat.zero_add, Bool.not_true, Bool.not_false, Bool.true_and, Bool.false_and, Bool.and_true, Bool.and_false, cond_true, cond_false, beq_self_eq_true, Int.reduceBEq, decide_true, decide_false, ld2, ld3, ld9, ld26, ld28, fa26_0, fa26_1, fa26_2, aggV, eql26, neq26, bin_eql_bool u4, ra10, rb10, hI', bin_eql_bool u4] <;> with_reducible rfl))
              with_reducible refine Tl.gd3_on ?_
              with_reducible refine Tl.call S10 (f16c (k := k + 7) 1 a b h10) fun h11 S11 _ => ?_
              have ra11 := row_at (i := 2) S11 rfl
              have rb11 := row_at (i := 1) S11 rfl
              repeat (with_reducible apply Tl.val; focus (simp only [bnd_some, bin_add, bin_sub, bin_mul, bin_lss, bin_leq, bin_gtr, bin_geq, bin_eql, bin_neq, un_not, un_neg, goInt, gd_tt, gd_ff, gd_tf, gd_ft, gd_sk, gd3_tt, gd3_ff, gd3_tf, gd3_ft, gd3_sk, Option.map_some, lt_some, pick_t, pick_f, Nat.zero_add, Bool.not_true, Bool.not_false, Bool.true_and, Bool.false_and, Bool.and_true, Bool.and_false, cond_true, cond_false, beq_self_eq_true, Int.reduceBEq, decide_true, decide_false, ld2, ld3, ld9, ld26, ld28, fa26_0, fa26_1, fa26_2, aggV, eql26, neq26, bin_eql_bool u4, ra11, rb11, hI', bin_eql_bool u4] <;> with_reducible rfl))
              with_reducible refine Tl.gd3_on ?_
              with_reducible refine Tl.call S11 (f16c (k := k + 7) 5 a b h11) fun h12 S12 _ => ?_
              have ra12 := row_at (i := 2) S12 rfl
              have rb12 := row_at (i := 1) S12 rfl
              repeat (with_reducible apply Tl.val; focus (simp only [bnd_some, bin_add, bin_sub, bin_mul, bin_lss, bin_leq, bin_gtr, bin_geq, bin_eql, bin_neq, un_not, un_neg, goInt, gd_tt, gd_ff, gd_tf, gd_ft, gd_sk, gd3_tt, gd3_ff, gd3_tf, gd3_ft, gd3_sk, Option.map_some, lt_some, pick_t, pick_f, Nat.zero_add, Bool.not_true, Bool.not_false, Bool.true_and, Bool.false_and, Bool.and_true, Bool.and_false, cond_true, cond_false, beq_self_eq_true, Int.reduceBEq, decide_true, decide_false, ld2, ld3, ld9, ld26, ld28, fa26_0, fa26_1, fa26_2, aggV, eql26, neq26, bin_eql_bool u4, ra12, rb12] <;> with_reducible rfl))
              with_reducible refine Tl.gd3_on ?_
              with_reducible refine Tl.call S12 (f16c (k := k + 7) 3 b a h12) fun h13 S13 _ => ?_
              repeat (with_reducible apply Tl.val; focus (simp only [bnd_some, bin_add, bin_sub, bin_mul, bin_lss, bin_leq, bin_gtr, bin_geq, bin_eql, bin_neq, un_not, un_neg, goInt, gd_tt, gd_ff, gd_tf, gd_ft, gd_sk, gd3_tt, gd3_ff, gd3_tf, gd3_ft, gd3_sk, Option.map_some, lt_some, pick_t, pick_f, Nat.zero_add, Bool.not_true, Bool.not_false, Bool.true_and, Bool.false_and, Bool.and_true, Bool.and_false, cond_true, cond_false, beq_self_eq_true, Int.reduceBEq, decide_true, decide_false, ld2, ld3, ld9, ld26, ld28, fa26_0, fa26_1, fa26_2, aggV, eql26, neq26, bin_eql_bool u4, hJ, bin_eql_bool u4] <;> with_reducible rfl))
              with_reducible refine Tl.chk ?_ ?_
              · simp only [ld26, ra8, rb8, ra9, rb9, ra10, rb10, ra12, rb12, ra11, rb11, Option.map_some, aggV, sameO_some, sameC, Bool.and_self, Bool.not_true, Bool.not_false, Bool.or_true, Bool.true_or, Bool.true_and, Bool.false_or]
              exact ⟨_, rfl, rfl⟩
      · have qN : (a.cmp b != 0) = true := ne0 _ (by simp at qX; omega)
        repeat (with_reducible apply Tl.val; focus (simp only [bnd_some, bin_add, bin_sub, bin_mul, bin_lss, bin_leq, bin_gtr, bin_geq, bin_eql, bin_neq, un_not, un_neg, goInt, gd_tt, gd_ff, gd_tf, gd_ft, gd_sk, gd3_tt, gd3_ff, gd3_tf, gd3_ft, gd3_sk, Option.map_some, lt_some, pick_t, pick_f, Nat.zero_add, Bool.not_true, Bool.not_false, Bool.true_and, Bool.false_and, Bool.and_true, Bool.and_false, cond_true, cond_false, beq_self_eq_true, Int.reduceBEq, decide_true, decide_false, ld2, ld3, ld9, ld26, ld28, fa26_0, fa26_1, fa26_2, aggV, eql26, neq26, bin_eql_bool u4, ka7, kb7, ra7, rb7, e1, e2, qX, qN] <;> with_reducible rfl))
        with_reducible refine Tl.call S7 (f15c (k := k + 9) b a h7) fun h8 S8 _ => ?_
        have ra8 := row_at (i := 2) S8 rfl
        have rb8 := row_at (i := 1) S8 rfl
        repeat (with_reducible apply Tl.val; focus (simp only [bnd_some, bin_add, bin_sub, bin_mul, bin_lss, bin_leq, bin_gtr, bin_geq, bin_eql, bin_neq, un_not, un_neg, goInt, gd_tt, gd_ff, gd_tf, gd_ft, gd_sk, gd3_tt, gd3_ff, gd3_tf, gd3_ft, gd3_sk, Option.map_some, lt_some, pick_t, pick_f, Nat.zero_add, Bool.not_true, Bool.not_false, Bool.true_and, Bool.false_and, Bool.and_true, Bool.and_false, cond_true, cond_false, beq_self_eq_true, Int.reduceBEq, decide_true, decide_false, ld2, ld3, ld9, ld26, ld28, fa26_0, fa26_1, fa26_2, aggV, eql26, neq26, bin_eql_bool u4, ra8, rb8, wneg, hz', e1, e2, qX, qN] <;> with_reducible rfl))
        with_reducible refine Tl.gd3_on ?_
        with_reducible refine Tl.call S8 (f16c (k := k + 7) 4 a b h8) fun h9 S9 _ => ?_
        have ra9 := row_at (i := 2) S9 rfl
        have rb9 := row_at (i := 1) S9 rfl
        repeat (with_reducible apply Tl.val; focus (simp only [bnd_some, bin_add, bin_sub, bin_mul, bin_lss, bin_leq, bin_gtr, bin_geq, bin_eql, bin_neq, un_not, un_neg, goInt, gd_tt, gd_ff, gd_tf, gd_ft, gd_sk, gd3_tt, gd3_ff, gd3_tf, gd3_ft, gd3_sk, Option.map_some, lt_some, pick_t, pick_f, Nat.zero_add, Bool.not_true, Bool.not_false, Bool.true_and, Bool.false_and, Bool.and_true, Bool.and_false, cond_true, cond_false, beq_self_eq_true, Int.reduceBEq, decide_true, decide_false, ld2, ld3, ld9, ld26, ld28, fa26_0, fa26_1, fa26_2, aggV, eql26, neq26, bin_eql_bool u4, ra9, rb9] <;> with_reducible rfl))
        with_reducible refine Tl.gd3_on ?_
        with_reducible refine Tl.call S9 (f16c (k := k + 7) 3 a b h9) fun h10 S10 _ => ?_
        have ra10 := row_at (i := 2) S10 rfl
        have rb10 := row_at (i := 1) S10 rfl
        rcases hI3 with ⟨q3, hI'⟩ | ⟨q3, hI'⟩
        · rw [q3]
          repeat (with_reducible apply Tl.val; focus (simp only [bnd_some, bin_add, bin_sub, bin_mul, bin_lss, bin_leq, bin_gtr, bin_geq, bin_eql, bin_neq, un_not, un_neg, goInt, gd_tt, gd_ff, gd_tf, gd_ft, gd_sk, gd3_tt, gd3_ff, gd3_tf, gd3_ft, gd3_sk, Option.map_some, lt_some, pick_t, pick_f, Nat.zero_add, Bool.not_true, Bool.not_false, Bool.true_and, Bool.false_and, Bool.and_true, Bool.and_false, cond_true, cond_false, beq_self_eq_true, Int.reduceBEq, decide_true, decide_false, ld2, ld3, ld9, ld26, ld28, fa26_0, fa26_1, fa26_2, aggV, eql26, neq26, bin_eql_bool u4, ra10, rb10, hI', bin_eql_bool u4] <;> with_reducible rfl))
          with_reducible refine Tl.gd3_on ?_
          with_reducible refine Tl.call S10 (f16c (k := k + 7) 5 a b h10) fun h12 S12 _ => ?_
          have ra12 := row_at (i := 2) S12 rfl
          have rb12 := row_at (i := 1) S12 rfl
          repeat (with_reducible apply Tl.val; focus (simp only [bnd_some, bin_add, bin_sub, bin_mul, bin_lss, bin_leq, bin_gtr, bin_geq, bin_eql, bin_neq, un_not, un_neg, goInt, gd_tt, gd_ff, gd_tf, gd_ft, gd_sk, gd3_tt, gd3_ff, gd3_tf, gd3_ft, gd3_sk, Option.map_some, lt_some, pick_t, pick_f, Nat.zero_add, Bool.not_true, Bool.not_false, Bool.true_and, Bool.false_and, Bool.and_true, Bool.and_false, cond_true, cond_false, beq_self_eq_true, Int.reduceBEq, decide_true, decide_false, ld2, ld3, ld9, ld26, ld28, fa26_0, fa26_1, fa26_2, aggV, eql26, neq26, bin_eql_bool u4, ra12, rb12] <;> with_reducible rfl))
          with_reducible refine Tl.gd3_on ?_
          with_reducible refine Tl.call S12 (f16c (k := k + 7) 3 b a h12) fun h13 S13 _ => ?_
          repeat (with_reducible apply Tl.val; focus (simp only [bnd_some, bin_add, bin_sub, bin_mul, bin_lss, bin_leq, bin_gtr, bin_geq, bin_eql, bin_neq, un_not, un_neg, goInt, gd_tt, gd_ff, gd_tf, gd_ft, gd_sk, gd3_tt, gd3_ff, gd3_tf, gd3_ft, gd3_sk, Option.map_some, lt_some, pick_t, pick_f, Nat.zero_add, Bool.not_true, Bool.not_false, Bool.true_and, Bool.false_and, Bool.and_true, Bool.and_false, cond_true, cond_false, beq_self_eq_true, Int.reduceBEq, decide_true, decide_false, ld2, ld3, ld9, ld26, ld28, fa26_0, fa26_1, fa26_2, aggV, eql26, neq26, bin_eql_bool u4, hJ, bin_eql_bool u4] <;> with_reducible rfl))
          with_reducible refine Tl.chk ?_ ?_
          · simp only [ld26, ra8, rb8, ra9, rb9, ra10, rb10, ra12, rb12, Option.map_some, aggV, sameO_some, sameC, Bool.and_self, Bool.not_true, Bool.not_false, Bool.or_true, Bool.true_or, Bool.true_and, Bool.false_or]
          exact ⟨_, rfl, rfl⟩
        · rw [q3]
          repeat (with_reducible apply Tl.val; focus (simp only [bnd_some, bin_add, bin_sub, bin_mul, bin_lss, bin_leq, bin_gtr, bin_geq, bin_eql, bin_neq, un_not, un_neg, goInt, gd_tt, gd_ff, gd_tf, gd_ft, gd_sk, gd3_tt, gd3_ff, gd3_tf, gd3_ft, gd3_sk, Option.map_some, lt_some, pick_t, pick_f, Nat.zero_add, Bool.not_true, Bool.not_false, Bool.true_and, Bool.false_and, Bool.and_true, Bool.and_false, cond_true, cond_false, beq_self_eq_true, Int.reduceBEq, decide_true, decide_false, ld2, ld3, ld9, ld26, ld28, fa26_0, fa26_1, fa26_2, aggV, eql26, neq26, bin_eql_bool u4, ra10, rb10, hI', bin_eql_bool u4] <;> with_reducible rfl))
          with_reducible refine Tl.gd3_on ?_
          with_reducible refine Tl.call S10 (f16c (k := k + 7) 1 a b h10) fun h11 S11 _ => ?_
          have ra11 := row_at (i := 2) S11 rfl
          have rb11 := row_at (i := 1) S11 rfl
          repeat (with_reducible apply Tl.val; focus (simp only [bnd_some, bin_add, bin_sub, bin_mul, bin_lss, bin_leq, bin_gtr, bin_geq, bin_eql, bin_neq, un_not, un_neg, goInt, gd_tt, gd_ff, gd_tf, gd_ft, gd_sk, gd3_tt, gd3_ff, gd3_tf, gd3_ft, gd3_sk, Option.map_some, lt_some, pick_t, pick_f, Nat.zero_add, Bool.not_true, Bool.not_false, Bool.true_and, Bool.false_and, Bool.and_true, Bool.and_false, cond_true, cond_false, beq_self_eq_true, Int.reduceBEq, decide_true, decide_false, ld2, ld3, ld9, ld26, ld28, fa26_0, fa26_1, fa26_2, aggV, eql26, neq26, bin_eql_bool u4, ra11, rb11, hI', bin_eql_bool u4] <;> with_reducible rfl))
          with_reducible refine Tl.gd3_on ?_
          with_reducible refine Tl.call S11 (f16c (k := k + 7) 5 a b h11) fun h12 S12 _ => ?_
          have ra12 := row_at (i := 2) S12 rfl
          have rb12 := row_at (i := 1) S12 rfl
          repeat (with_reducible apply Tl.val; focus (simp only [bnd_some, bin_add, bin_sub, bin_mul, bin_lss, bin_leq, bin_gtr, bin_geq, bin_eql, bin_neq, un_not, un_neg, goInt, gd_tt, gd_ff, gd_tf, gd_ft, gd_sk, gd3_tt, gd3_ff, gd3_tf, gd3_ft, gd3_sk, Option.map_some, lt_some, pick_t, pick_f, Nat.zero_add, Bool.not_true, Bool.not_false, Bool.true_and, Bool.false_and, Bool.and_true, Bool.and_false, cond_true, cond_false, beq_self_eq_true, Int.reduceBEq, decide_true, decide_false, ld2, ld3, ld9, ld26, ld28, fa26_0, fa26_1, fa26_2, aggV, eql26, neq26, bin_eql_bool u4, ra12, rb12] <;> with_reducible rfl))
          with_reducible refine Tl.gd3_on ?_
          with_reducible refine Tl.call S12 (f16c (k := k + 7) 3 b a h12) fun h13 S13 _ => ?_
          repeat (with_reducible apply Tl.val; focus (simp only [bnd_some, bin_add, bin_sub, bin_mul, bin_lss, bin_leq, bin_gtr, bin_geq, bin_eql, bin_neq, un_not, un_neg, goInt, gd_tt, gd_ff, gd_tf, gd_ft, gd_sk, gd3_tt, gd3_ff, gd3_tf, gd3_ft, gd3_sk, Option.map_some, lt_some, pick_t, pick_f, Nat.zero_add, Bool.not_true, Bool.not_false, Bool.true_and, Bool.false_and, Bool.and_true, Bool.and_false, cond_true, cond_false, beq_self_eq_true, Int.reduceBEq, decide_true, decide_false, ld2, ld3, ld9, ld26, ld28, fa26_0, fa26_1, fa26_2, aggV, eql26, neq26, bin_eql_bool u4, hJ, bin_eql_bool u4] <;> with_reducible rfl))
          with_reducible refine Tl.chk ?_ ?_
          · simp only [ld26, ra8, rb8, ra9, rb9, ra10, rb10, ra12, rb12, ra11, rb11, Option.map_some, aggV, sameO_some, sameC, Bool.and_self, Bool.not_true, Bool.not_false, Bool.or_true, Bool.true_or, Bool.true_and, Bool.false_or]
          exact ⟨_, rfl, rfl⟩
    · skip
      cases qX : decide (a.cmp b > 0)
      · cases qY : decide (b.cmp c > 0)
        · have qZ : decide (a.cmp c ≤ 0) = true := by simp at qX qY; simpa using tZ (by omega) (by omega)
          cases qN : (a.cmp b != 0)
          · have qE : (a.cmp c == b.cmp c) = true := by simp at qN; rw [tE qN]; simp
            repeat (with_reducible apply Tl.val; focus (simp only [bnd_some, bin_add, bin_sub, bin_mul, bin_lss, bin_leq, bin_gtr, bin_geq, bin_eql, bin_neq, un_not, un_neg, goInt, gd_tt, gd_ff, gd_tf, gd_ft, gd_sk, gd3_tt, gd3_ff, gd3_tf, gd3_ft, gd3_sk, Option.map_some, lt_some, pick_t, pick_f, Nat.zero_add, Bool.not_true, Bool.not_false, Bool.true_and, Bool.false_and, Bool.and_true, Bool.and_false, cond_true, cond_false, beq_self_eq_true, Int.reduceBEq, decide_true, decide_false, ld2, ld3, ld9, ld26, ld28, fa26_0, fa26_1, fa26_2, aggV, eql26, neq26, bin_eql_bool u4, ka7, kb7, ra7, rb7, e1, e2, qX, qY, qZ, qN, qE] <;> with_reducible rfl))
            with_reducible refine Tl.call S7 (f15c (k := k + 9) b a h7) fun h8 S8 _ => ?_
            have ra8 := row_at (i := 2) S8 rfl
            have rb8 := row_at (i := 1) S8 rfl
            repeat (with_reducible apply Tl.val; focus (simp only [bnd_some, bin_add, bin_sub, bin_mul, bin_lss, bin_leq, bin_gtr, bin_geq, bin_eql, bin_neq, un_not, un_neg, goInt, gd_tt, gd_ff, gd_tf, gd_ft, gd_sk, gd3_tt, gd3_ff, gd3_tf, gd3_ft, gd3_sk, Option.map_some, lt_some, pick_t, pick_f, Nat.zero_add, Bool.not_true, Bool.not_false, Bool.true_and, Bool.false_and, Bool.and_true, Bool.and_false, cond_true, cond_false, beq_self_eq_true, Int.reduceBEq, decide_true, decide_false, ld2, ld3, ld9, ld26, ld28, fa26_0, fa26_1, fa26_2, aggV, eql26, neq26, bin_eql_bool u4, ra8, rb8, wneg, hz', e1, e2, qX, qY, qZ, qN, qE] <;> with_reducible rfl))
            with_reducible refine Tl.gd3_on ?_
            with_reducible refine Tl.call S8 (f16c (k := k + 7) 4 a b h8) fun h9 S9 _ => ?_
            have ra9 := row_at (i := 2) S9 rfl
            have rb9 := row_at (i := 1) S9 rfl
            repeat (with_reducible apply Tl.val; focus (simp only [bnd_some, bin_add, bin_sub, bin_mul, bin_lss, bin_leq, bin_gtr, bin_geq, bin_eql, bin_neq, un_not, un_neg, goInt, gd_tt, gd_ff, gd_tf, gd_ft, gd_sk, gd3_tt, gd3_ff, gd3_tf, gd3_ft, gd3_sk, Option.map_some, lt_some, pick_t, pick_f, Nat.zero_add, Bool.not_true, Bool.not_false, Bool.true_and, Bool.false_and, Bool.and_true, Bool.and_false, cond_true, cond_false, beq_self_eq_true, Int.reduceBEq, decide_true, decide_false, ld2, ld3, ld9, ld26, ld28, fa26_0, fa26_1, fa26_2, aggV, eql26, neq26, bin_eql_bool u4, ra9, rb9] <;> with_reducible rfl))
            with_reducible refine Tl.gd3_on ?_
            with_reducible refine Tl.call S9 (f16c (k := k + 7) 3 a b h9) fun h10 S10 _ => ?_
            have ra10 := row_at (i := 2) S10 rfl
            have rb10 := row_at (i := 1) S10 rfl
            rcases hI3 with ⟨q3, hI'⟩ | ⟨q3, hI'⟩
            · rw [q3]
              repeat (with_reducible apply Tl.val; focus (simp only [bnd_some, bin_add, bin_sub, bin_mul, bin_lss, bin_leq, bin_gtr, bin_geq, bin_eql, bin_neq, un_not, un_neg, goInt, gd_tt, gd_ff, gd_tf, gd_ft, gd_sk, gd3_tt, gd3_ff, gd3_tf, gd3_ft, gd3_sk, Option.map_some, lt_some, pick_t, pick_f, Nat.zero_add, Bool.not_true, Bool.not_false, Bool.true_and, Bool.false_and, Bool.and_true, Bool.and_false, cond_true, cond_false, beq_self_eq_true, Int.reduceBEq, decide_true, decide_false, ld2, ld3, ld9, ld26, ld28, fa26_0, fa26_1, fa26_2, aggV, eql26, neq26, bin_eql_bool u4, ra10, rb10, hI', bin_eql_bool u4] <;> with_reducible rfl))
              with_reducible refine Tl.gd3_on ?_
              with_reducible refine Tl.call S10 (f16c (k := k + 7) 5 a b h10) fun h12 S12 _ => ?_
              have ra12 := row_at (i := 2) S12 rfl
              have rb12 := row_at (i := 1) S12 rfl
              repeat (with_reducible apply Tl.val; focus (simp only [bnd_some, bin_add, bin_sub, bin_mul, bin_lss, bin_leq, bin_gtr, bin_geq, bin_eql, bin_neq, un_not, un_neg, goInt, gd_tt, gd_ff, gd_tf, gd_ft, gd_sk, gd3_tt, gd3_ff, gd3_tf, gd3_ft, gd3_sk, Option.map_some, lt_some, pick_t, pick_f, Nat.zero_add, Bool.not_true, Bool.not_false, Bool.true_and, Bool.false_and, Bool.and_true, Bool.and_false, cond_true, cond_false, beq_self_eq_true, Int.reduceBEq, decide_true, decide_false, ld2, ld3, ld9, ld26, ld28, fa26_0, fa26_1, fa26_2, aggV, eql26, neq26, bin_eql_bool u4, ra12, rb12] <;> with_reducible rfl))
              with_reducible refine Tl.gd3_on ?_
              with_reducible refine Tl.call S12 (f16c (k := k + 7) 3 b a h12) fun h13 S13 _ => ?_
              repeat (with_reducible apply Tl.val; focus (simp only [bnd_some, bin_add, bin_sub, bin_mul, bin_lss, bin_leq, bin_gtr, bin_geq, bin_eql, bin_neq, un_not, un_neg, goInt, gd_tt, gd_ff, gd_tf, gd_ft, gd_sk, gd3_tt, gd3_ff, gd3_tf, gd3_ft, gd3_sk, Option.map_some, lt_some, pick_t, pick_f, Nat.zero_add, Bool.not_true, Bool.not_false, Bool.true_and, Bool.false_and, Bool.and_true, Bool.and_false, cond_true, cond_false, beq_self_eq_true, Int.reduceBEq, decide_true, decide_false, ld2, ld3, ld9, ld26, ld28, fa26_0, fa26_1, fa26_2, aggV, eql26, neq26, bin_eql_bool u4, hJ, bin_eql_bool u4] <;> with_reducible rfl))
              with_reducible refine Tl.chk ?_ ?_
              · simp only [ld26, ra8, rb8, ra9, rb9, ra10, rb10, ra12, rb12, Option.map_some, aggV, sameO_some, sameC, Bool.and_self, Bool.not_true, Bool.not_false, Bool.or_true, Bool.true_or, Bool.true_and, Bool.false_or]
              exact ⟨_, rfl, rfl⟩
            · rw [q3]
              repeat (with_reducible apply Tl.val; focus (simp only [bnd_some, bin_add, bin_sub, bin_mul, bin_lss, bin_leq, bin_gtr, bin_geq, bin_eql, bin_neq, un_not, un_neg, goInt, gd_tt, gd_ff, gd_tf, gd_ft, gd_sk, gd3_tt, gd3_ff, gd3_tf, gd3_ft, gd3_sk, Option.map_some, lt_some, pick_t, pick_f, Nat.zero_add, Bool.not_true, Bool.not_false, Bool.true_and, Bool.false_and, Bool.and_true, Bool.and_false, cond_true, cond_false, beq_self_eq_true, Int.reduceBEq, decide_true, decide_false, ld2, ld3, ld9, ld26, ld28, fa26_0, fa26_1, fa26_2, aggV, eql26, neq26, bin_eql_bool u4, ra10, rb10, hI', bin_eql_bool u4] <;> with_reducible rfl))
              with_reducible refine Tl.gd3_on ?_
              with_reducible refine Tl.call S10 (f16c (k := k + 7) 1 a b h10) fun h11 S11 _ => ?_
              have ra11 := row_at (i := 2) S11 rfl
              have rb11 := row_at (i := 1) S11 rfl
              repeat (with_reducible apply Tl.val; focus (simp only [bnd_some, bin_add, bin_sub, bin_mul, bin_lss, bin_leq, bin_gtr, bin_geq, bin_eql, bin_neq, un_not, un_neg, goInt, gd_tt, gd_ff, gd_tf, gd_ft, gd_sk, gd3_tt, gd3_ff, gd3_tf, gd3_ft, gd3_sk, Option.map_some, lt_some, pick_t, pick_f, Nat.zero_add, Bool.not_true, Bool.not_false, Bool.true_and, Bool.false_and, Bool.and_true, Bool.and_false, cond_true, cond_false, beq_self_eq_true, Int.reduceBEq, decide_true, decide_false, ld2, ld3, ld9, ld26, ld28, fa26_0, fa26_1, fa26_2, aggV, eql26, neq26, bin_eql_bool u4, ra11, rb11, hI', bin_eql_bool u4] <;> with_reducible rfl))
              with_reducible refine Tl.gd3_on ?_
              with_reducible refine Tl.call S11 (f16c (k := k + 7) 5 a b h11) fun h12 S12 _ => ?_
              have ra12 := row_at (i := 2) S12 rfl
              have rb12 := row_at (i := 1) S12 rfl
              repeat (with_reducible apply Tl.val; focus (simp only [bnd_some, bin_add, bin_sub, bin_mul, bin_lss, bin_leq, bin_gtr, bin_geq, bin_eql, bin_neq, un_not, un_neg, goInt, gd_tt, gd_ff, gd_tf, gd_ft, gd_sk, gd3_tt, gd3_ff, gd3_tf, gd3_ft, gd3_sk, Option.map_some, lt_some, pick_t, pick_f, Nat.zero_add, Bool.not_true, Bool.not_false, Bool.true_and, Bool.false_and, Bool.and_true, Bool.and_false, cond_true, cond_false, beq_self_eq_true, Int.reduceBEq, decide_true, decide_false, ld2, ld3, ld9, ld26, ld28, fa26_0, fa26_1, fa26_2, aggV, eql26, neq26, bin_eql_bool u4, ra12, rb12] <;> with_reducible rfl))
              with_reducible refine Tl.gd3_on ?_
              with_reducible refine Tl.call S12 (f16c (k := k + 7) 3 b a h12) fun h13 S13 _ => ?_
              repeat (with_reducible apply Tl.val; focus (simp only [bnd_some, bin_add, bin_sub, bin_mul, bin_lss, bin_leq, bin_gtr, bin_geq, bin_eql, bin_neq, un_not, un_neg, goInt, gd_tt, gd_ff, gd_tf, gd_ft, gd_sk, gd3_tt, gd3_ff, gd3_tf, gd3_ft, gd3_sk, Option.map_some, lt_some, pick_t, pick_f, Nat.zero_add, Bool.not_true, Bool.not_false, Bool.true_and, Bool.false_and, Bool.and_true, Bool.and_false, cond_true, cond_false, beq_self_eq_true, Int.reduceBEq, decide_true, decide_false, ld2, ld3, ld9, ld26, ld28, fa26_0, fa26_1, fa26_2, aggV, eql26, neq26, bin_eql_bool u4, hJ, bin_eql_bool u4] <;> with_reducible rfl))
              with_reducible refine Tl.chk ?_ ?_
              · simp only [ld26, ra8, rb8, ra9, rb9, ra10, rb10, ra12, rb12, ra11, rb11, Option.map_some, aggV, sameO_some, sameC, Bool.and_self, Bool.not_true, Bool.not_false, Bool.or_true, Bool.true_or, Bool.true_and, Bool.false_or]
              exact ⟨_, rfl, rfl⟩
          ·
            repeat (with_reducible apply Tl.val; focus (simp only [bnd_some, bin_add, bin_sub, bin_mul, bin_lss, bin_leq, bin_gtr, bin_geq, bin_eql, bin_neq, un_not, un_neg, goInt, gd_tt, gd_ff, gd_tf, gd_ft, gd_sk, gd3_tt, gd3_ff, gd3_tf, gd3_ft, gd3_sk, Option.map_some, lt_some, pick_t, pick_f, Nat.zero_add, Bool.not_true, Bool.not_false, Bool.true_and, Bool.false_and, Bool.and_true, Bool.and_false, cond_true, cond_false, beq_self_eq_true, Int.reduceBEq, decide_true, decide_false, ld2, ld3, ld9, ld26, ld28, fa26_0, fa26_1, fa26_2, aggV, eql26, neq26, bin_eql_bool u4, ka7, kb7, ra7, rb7, e1, e2, qX, qY, qZ, qN] <;> with_reducible rfl))
            with_reducible refine Tl.call S7 (f15c (k := k + 9) b a h7) fun h8 S8 _ => ?_
            have ra8 := row_at (i := 2) S8 rfl
            have rb8 := row_at (i := 1) S8 rfl
            repeat (with_reducible apply Tl.val; focus (simp only [bnd_some, bin_add, bin_sub, bin_mul, bin_lss, bin_leq, bin_gtr, bin_geq, bin_eql, bin_neq, un_not, un_neg, goInt, gd_tt, gd_ff, gd_tf, gd_ft, gd_sk, gd3_tt, gd3_ff, gd3_tf, gd3_ft, gd3_sk, Option.map_some, lt_some, pick_t, pick_f, Nat.zero_add, Bool.not_true, Bool.not_false, Bool.true_and, Bool.false_and, Bool.and_true, Bool.and_false, cond_true, cond_false, beq_self_eq_true, Int.reduceBEq, decide_true, decide_false, ld2, ld3, ld9, ld26, ld28, fa26_0, fa26_1, fa26_2, aggV, eql26, neq26, bin_eql_bool u4, ra8, rb8, wneg, hz', e1, e2, qX, qY, qZ, qN] <;> with_reducible rfl))
            with_reducible refine Tl.gd3_on ?_
            with_reducible refine Tl.call S8 (f16c (k := k + 7) 4 a b h8) fun h9 S9 _ => ?_
            have ra9 := row_at (i := 2) S9 rfl
            have rb9 := row_at (i := 1) S9 rfl
            repeat (with_reducible apply Tl.val; focus (simp only [bnd_some, bin_add, bin_sub, bin_mul, bin_lss, bin_leq, bin_gtr, bin_geq, bin_eql, bin_neq, un_not, un_neg, goInt, gd_tt, gd_ff, gd_tf, gd_ft, gd_sk, gd3_tt, gd3_ff, gd3_tf, gd3_ft, gd3_sk, Option.map_some, lt_some, pick_t, pick_f, Nat.zero_add, Bool.not_true, Bool.not_false, Bool.true_and, Bool.false_and, Bool.and_true, Bool.and_false, cond_true, cond_false, beq_self_eq_true, Int.reduceBEq, decide_true, decide_false, ld2, ld3, ld9, ld26, ld28, fa26_0, fa26_1, fa26_2, aggV, eql26, neq26, bin_eql_bool u4, ra9, rb9] <;> with_reducible rfl))
            with_reducible refine Tl.gd3_on ?_
            with_reducible refine Tl.call S9 (f16c (k := k + 7) 3 a b h9) fun h10 S10 _ => ?_
            have ra10 := row_at (i := 2) S10 rfl
            have rb10 := row_at (i := 1) S10 rfl
            rcases hI3 with ⟨q3, hI'⟩ | ⟨q3, hI'⟩
            · rw [q3]
              repeat (with_reducible apply Tl.val; focus (simp only [bnd_some, bin_add, bin_sub, bin_mul, bin_lss, bin_leq, bin_gtr, bin_geq, bin_eql, bin_neq, un_not, un_neg, goInt, gd_tt, gd_ff, gd_tf, gd_ft, gd_sk, gd3_tt, gd3_ff, gd3_tf, gd3_ft, gd3_sk, Option.map_some, lt_some, pick_t, pick_f, Nat.zero_add, Bool.not_true, Bool.not_false, Bool.true_and, Bool.false_and, Bool.and_true, Bool.and_false, cond_true, cond_false, beq_self_eq_true, Int.reduceBEq, decide_true, decide_false, ld2, ld3, ld9, ld26, ld28, fa26_0, fa26_1, fa26_2, aggV, eql26, neq26, bin_eql_bool u4, ra10, rb10, hI', bin_eql_bool u4] <;> with_reducible rfl))
              with_reducible refine Tl.gd3_on ?_
              with_reducible refine Tl.call S10 (f16c (k := k + 7) 5 a b h10) fun h12 S12 _ => ?_
              have ra12 := row_at (i := 2) S12 rfl
              have rb12 := row_at (i := 1) S12 rfl
              repeat (with_reducible apply Tl.val; focus (simp only [bnd_some, bin_add, bin_sub, bin_mul, bin_lss, bin_leq, bin_gtr, bin_geq, bin_eql, bin_neq, un_not, un_neg, goInt, gd_tt, gd_ff, gd_tf, gd_ft, gd_sk, gd3_tt, gd3_ff, gd3_tf, gd3_ft, gd3_sk, Option.map_some, lt_some, pick_t, pick_f, Nat.zero_add, Bool.not_true, Bool.not_false, Bool.true_and, Bool.false_and, Bool.and_true, Bool.and_false, cond_true, cond_false, beq_self_eq_true, Int.reduceBEq, decide_true, decide_false, ld2, ld3, ld9, ld26, ld28, fa26_0, fa26_1, fa26_2, aggV, eql26, neq26, bin_eql_bool u4, ra12, rb12] <;> with_reducible rfl))
              with_reducible refine Tl.gd3_on ?_
              with_reducible refine Tl.call S12 (f16c (k := k + 7) 3 b a h12) fun h13 S13 _ => ?_
              repeat (with_reducible apply Tl.val; focus (simp only [bnd_some, bin_add, bin_sub, bin_mul, bin_lss, bin_leq, bin_gtr, bin_geq, bin_eql, bin_neq, un_not, un_neg, goInt, gd_tt, gd_ff, gd_tf, gd_ft, gd_sk, gd3_tt, gd3_ff, gd3_tf, gd3_ft, gd3_sk, Option.map_some, lt_some, pick_t, pick_f, Nat.zero_add, Bool.not_true, Bool.not_false, Bool.true_and, Bool.false_and, Bool.and_true, Bool.and_false, cond_true, cond_false, beq_self_eq_true, Int.reduceBEq, decide_true, decide_false, ld2, ld3, ld9, ld26, ld28, fa26_0, fa26_1, fa26_2, aggV, eql26, neq26, bin_eql_bool u4, hJ, bin_eql_bool u4] <;> with_reducible rfl))
              with_reducible refine Tl.chk ?_ ?_
              · simp only [ld26, ra8, rb8, ra9, rb9, ra10, rb10, ra12, rb12, Option.map_some, aggV, sameO_some, sameC, Bool.and_self, Bool.not_true, Bool.not_false, Bool.or_true, Bool.true_or, Bool.true_and, Bool.false_or]
              exact ⟨_, rfl, rfl⟩
            · rw [q3]
              repeat (with_reducible apply Tl.val; focus (simp only [bnd_some, bin_add, bin_sub, bin_mul, bin_lss, bin_leq, bin_gtr, bin_geq, bin_eql, bin_neq, un_not, un_neg, goInt, gd_tt, gd_ff, gd_tf, gd_ft, gd_sk, gd3_tt, gd3_ff, gd3_tf, gd3_ft, gd3_sk, Option.map_some, lt_some, pick_t, pick_f, Nat.zero_add, Bool.not_true, Bool.not_false, Bool.true_and, Bool.false_and, Bool.and_true, Bool.and_false, cond_true, cond_false, beq_self_eq_true, Int.reduceBEq, decide_true, decide_false, ld2, ld3, ld9, ld26, ld28, fa26_0, fa26_1, fa26_2, aggV, eql26, neq26, bin_eql_bool u4, ra10, rb10, hI', bin_eql_bool u4] <;> with_reducible rfl))
              with_reducible refine Tl.gd3_on ?_
              with_reducible refine Tl.call S10 (f16c (k := k + 7) 1 a b h10) fun h11 S11 _ => ?_
              have ra11 := row_at (i := 2) S11 rfl
              have rb11 := row_at (i := 1) S11 rfl
              repeat (with_reducible apply Tl.val; focus (simp only [bnd_some, bin_add, bin_sub, bin_mul, bin_lss, bin_leq, bin_gtr, bin_geq, bin_eql, bin_neq, un_not, un_neg, goInt, gd_tt, gd_ff, gd_tf, gd_ft, gd_sk, gd3_tt, gd3_ff, gd3_tf, gd3_ft, gd3_sk, Option.map_some, lt_some, pick_t, pick_f, Nat.zero_add, Bool.not_true, Bool.not_false, Bool.true_and, Bool.false_and, Bool.and_true, Bool.and_false, cond_true, cond_false, beq_self_eq_true, Int.reduceBEq, decide_true, decide_false, ld2, ld3, ld9, ld26, ld28, fa26_0, fa26_1, fa26_2, aggV, eql26, neq26, bin_eql_bool u4, ra11, rb11, hI', bin_eql_bool u4] <;> with_reducible rfl))
              with_reducible refine Tl.gd3_on ?_
              with_reducible refine Tl.call S11 (f16c (k := k + 7) 5 a b h11) fun h12 S12 _ => ?_
              have ra12 := row_at (i := 2) S12 rfl
              have rb12 := row_at (i := 1) S12 rfl
              repeat (with_reducible apply Tl.val; focus (simp only [bnd_some, bin_add, bin_sub, bin_mul, bin_lss, bin_leq, bin_gtr, bin_geq, bin_eql, bin_neq, un_not, un_neg, goInt, gd_tt, gd_ff, gd_tf, gd_ft, gd_sk, gd3_tt, gd3_ff, gd3_tf, gd3_ft, gd3_sk, Option.map_some, lt_some, pick_t, pick_f, Nat.zero_add, Bool.not_true, Bool.not_false, Bool.true_and, Bool.false_and, Bool.and_true, Bool.and_false, cond_true, cond_false, beq_self_eq_true, Int.reduceBEq, decide_true, decide_false, ld2, ld3, ld9, ld26, ld28, fa26_0, fa26_1, fa26_2, aggV, eql26, neq26, bin_eql_bool u4, ra12, rb12] <;> with_reducible rfl))
              with_reducible refine Tl.gd3_on ?_
              with_reducible refine Tl.call S12 (f16c (k := k + 7) 3 b a h12) fun h13 S13 _ => ?_
              repeat (with_reducible apply Tl.val; focus (simp only [bnd_some, bin_add, bin_sub, bin_mul, bin_lss, bin_leq, bin_gtr, bin_geq, bin_eql, bin_neq, un_not, un_neg, goInt, gd_tt, gd_ff, gd_tf, gd_ft, gd_sk, gd3_tt, gd3_ff, gd3_tf, gd3_ft, gd3_sk, Option.map_some, lt_some, pick_t, pick_f, Nat.zero_add, Bool.not_true, Bool.not_false, Bool.true_and, Bool.false_and, Bool.and_true, Bool.and_false, cond_true, cond_false, beq_self_eq_true, Int.reduceBEq, decide_true, decide_false, ld2, ld3, ld9, ld26, ld28, fa26_0, fa26_1, fa26_2, aggV, eql26, neq26, bin_eql_bool u4, hJ, bin_eql_bool u4] <;> with_reducible rfl))
              with_reducible refine Tl.chk ?_ ?_
              · simp only [ld26, ra8, rb8, ra9, rb9, ra10, rb10, ra12, rb12, ra11, rb11, Option.map_some, aggV, sameO_some, sameC, Bool.and_self, Bool.not_true, Bool.not_false, Bool.or_true, Bool.true_or, Bool.true_and, Bool.false_or]
              exact ⟨_, rfl, rfl⟩
        · cases qN : (a.cmp b != 0)
          · have qE : (a.cmp c == b.cmp c) = true := by simp at qN; rw [tE qN]; simp
            repeat (with_reducible apply Tl.val; focus (simp only [bnd_some, bin_add, bin_sub, bin_mul, bin_lss, bin_leq, bin_gtr, bin_geq, bin_eql, bin_neq, un_not, un_neg, goInt, gd_tt, gd_ff, gd_tf, gd_ft, gd_sk, gd3_tt, gd3_ff, gd3_tf, gd3_ft, gd3_sk, Option.map_some, lt_some, pick_t, pick_f, Nat.zero_add, Bool.not_true, Bool.not_false, Bool.true_and, Bool.false_and, Bool.and_true, Bool.and_false, cond_true, cond_false, beq_self_eq_true, Int.reduceBEq, decide_true, decide_false, ld2, ld3, ld9, ld26, ld28, fa26_0, fa26_1, fa26_2, aggV, eql26, neq26, bin_eql_bool u4, ka7, kb7, ra7, rb7, e1, e2, qX, qY, qN, qE] <;> with_reducible rfl))
            with_reducible refine Tl.call S7 (f15c (k := k + 9) b a h7) fun h8 S8 _ => ?_
            have ra8 := row_at (i := 2) S8 rfl
            have rb8 := row_at (i := 1) S8 rfl
            repeat (with_reducible apply Tl.val; focus (simp only [bnd_some, bin_add, bin_sub, bin_mul, bin_lss, bin_leq, bin_gtr, bin_geq, bin_eql, bin_neq, un_not, un_neg, goInt, gd_tt, gd_ff, gd_tf, gd_ft, gd_sk, gd3_tt, gd3_ff, gd3_tf, gd3_ft, gd3_sk, Option.map_some, lt_some, pick_t, pick_f, Nat.zero_add, Bool.not_true, Bool.not_false, Bool.true_and, Bool.false_and, Bool.and_true, Bool.and_false, cond_true, cond_false, beq_self_eq_true, Int.reduceBEq, decide_true, decide_false, ld2, ld3, ld9, ld26, ld28, fa26_0, fa26_1, fa26_2, aggV, eql26, neq26, bin_eql_bool u4, ra8, rb8, wneg, hz', e1, e2, qX, qY, qN, qE] <;> with_reducible rfl))
            with_reducible refine Tl.gd3_on ?_
            with_reducible refine Tl.call S8 (f16c (k := k + 7) 4 a b h8) fun h9 S9 _ => ?_
            have ra9 := row_at (i := 2) S9 rfl
            have rb9 := row_at (i := 1) S9 rfl
            repeat (with_reducible apply Tl.val; focus (simp only [bnd_some, bin_add, bin_sub, bin_mul, bin_lss, bin_leq, bin_gtr, bin_geq, bin_eql, bin_neq, un_not, un_neg, goInt, gd_tt, gd_ff, gd_tf, gd_ft, gd_sk, gd3_tt, gd3_ff, gd3_tf, gd3_ft, gd3_sk, Option.map_some, lt_some, pick_t, pick_f, Nat.zero_add, Bool.not_true, Bool.not_false, Bool.true_and, Bool.false_and, Bool.and_true, Bool.and_false, cond_true, cond_false, beq_self_eq_true, Int.reduceBEq, decide_true, decide_false, ld2, ld3, ld9, ld26, ld28, fa26_0, fa26_1, fa26_2, aggV, eql26, neq26, bin_eql_bool u4, ra9, rb9] <;> with_reducible rfl))
            with_reducible refine Tl.gd3_on ?_
            with_reducible refine Tl.call S9 (f16c (k := k + 7) 3 a b h9) fun h10 S10 _ => ?_
            have ra10 := row_at (i := 2) S10 rfl
            have rb10 := row_at (i := 1) S10 rfl
            rcases hI3 with ⟨q3, hI'⟩ | ⟨q3, hI'⟩
            · rw [q3]
              repeat (with_reducible apply Tl.val; focus (simp only [bnd_some, bin_add, bin_sub, bin_mul, bin_lss, bin_leq, bin_gtr, bin_geq, bin_eql, bin_neq, un_not, un_neg, goInt, gd_tt, gd_ff, gd_tf, gd_ft, gd_sk, gd3_tt, gd3_ff, gd3_tf, gd3_ft, gd3_sk, Option.map_some, lt_some, pick_t, pick_f, Nat.zero_add, Bool.not_true, Bool.not_false, Bool.true_and, Bool.false_and, Bool.and_true, Bool.and_false, cond_true, cond_false, beq_self_eq_true, Int.reduceBEq, decide_true, decide_false, ld2, ld3, ld9, ld26, ld28, fa26_0, fa26_1, fa26_2, aggV, eql26, neq26, bin_eql_bool u4, ra10, rb10, hI', bin_eql_bool u4] <;> with_reducible rfl))
              with_reducible refine Tl.gd3_on ?_
              with_reducible refine Tl.call S10 (f16c (k := k + 7) 5 a b h10) fun h12 S12 _ => ?_
              have ra12 := row_at (i := 2) S12 rfl
              have rb12 := row_at (i := 1) S12 rfl
              repeat (with_reducible apply Tl.val; focus (simp only [bnd_some, bin_add, bin_sub, bin_mul, bin_lss, bin_leq, bin_gtr, bin_geq, bin_eql, bin_neq, un_not, un_neg, goInt, gd_tt, gd_ff, gd_tf, gd_ft, gd_sk, gd3_tt, gd3_ff, gd3_tf, gd3_ft, gd3_sk, Option.map_some, lt_some, pick_t, pick_f, Nat.zero_add, Bool.not_true, Bool.not_false, Bool.true_and, Bool.false_and, Bool.and_true, Bool.and_false, cond_true, cond_false, beq_self_eq_true, Int.reduceBEq, decide_true, decide_false, ld2, ld3, ld9, ld26, ld28, fa26_0, fa26_1, fa26_2, aggV, eql26, neq26, bin_eql_bool u4, ra12, rb12] <;> with_reducible rfl))
              with_reducible refine Tl.gd3_on ?_
              with_reducible refine Tl.call S12 (f16c (k := k + 7) 3 b a h12) fun h13 S13 _ => ?_
              repeat (with_reducible apply Tl.val; focus (simp only [bnd_some, bin_add, bin_sub, bin_mul, bin_lss, bin_leq, bin_gtr, bin_geq, bin_eql, bin_neq, un_not, un_neg, goInt, gd_tt, gd_ff, gd_tf, gd_ft, gd_sk, gd3_tt, gd3_ff, gd3_tf, gd3_ft, gd3_sk, Option.map_some, lt_some, pick_t, pick_f, Nat.zero_add, Bool.not_true, Bool.not_false, Bool.true_and, Bool.false_and, Bool.and_true, Bool.and_false, cond_true, cond_false, beq_self_eq_true, Int.reduceBEq, decide_true, decide_false, ld2, ld3, ld9, ld26, ld28, fa26_0, fa26_1, fa26_2, aggV, eql26, neq26, bin_eql_bool u4, hJ, bin_eql_bool u4] <;> with_reducible rfl))
              with_reducible refine Tl.chk ?_ ?_
              · simp only [ld26, ra8, rb8, ra9, rb9, ra10, rb10, ra12, rb12, Option.map_some, aggV, sameO_some, sameC, Bool.and_self, Bool.not_true, Bool.not_false, Bool.or_true, Bool.true_or, Bool.true_and, Bool.false_or]
              exact ⟨_, rfl, rfl⟩
            · rw [q3]
              repeat (with_reducible apply Tl.val; focus (simp only [bnd_some, bin_add, bin_sub, bin_mul, bin_lss, bin_leq, bin_gtr, bin_geq, bin_eql, bin_neq, un_not, un_neg, goInt, gd_tt, gd_ff, gd_tf, gd_ft, gd_sk, gd3_tt, gd3_ff, gd3_tf, gd3_ft, gd3_sk, Option.map_some, lt_some, pick_t, pick_f, Nat.zero_add, Bool.not_true, Bool.not_false, Bool.true_and, Bool.false_and, Bool.and_true, Bool.and_false, cond_true, cond_false, beq_self_eq_true, Int.reduceBEq, decide_true, decide_false, ld2, ld3, ld9, ld26, ld28, fa26_0, fa26_1, fa26_2, aggV, eql26, neq26, bin_eql_bool u4, ra10, rb10, hI', bin_eql_bool u4] <;> with_reducible rfl))
              with_reducible refine Tl.gd3_on ?_
              with_reducible refine Tl.call S10 (f16c (k := k + 7) 1 a b h10) fun h11 S11 _ => ?_
              have ra11 := row_at (i := 2) S11 rfl
              have rb11 := row_at (i := 1) S11 rfl
              repeat (with_reducible apply Tl.val; focus (simp only [bnd_some, bin_add, bin_sub, bin_mul, bin_lss, bin_leq, bin_gtr, bin_geq, bin_eql, bin_neq, un_not, un_neg, goInt, gd_tt, gd_ff, gd_tf, gd_ft, gd_sk, gd3_tt, gd3_ff, gd3_tf, gd3_ft, gd3_sk, Option.map_some, lt_some, pick_t, pick_f, Nat.zero_add, Bool.not_true, Bool.not_false, Bool.true_and, Bool.false_and, Bool.and_true, Bool.and_false, cond_true, cond_false, beq_self_eq_true, Int.reduceBEq, decide_true, decide_false, ld2, ld3, ld9, ld26, ld28, fa26_0, fa26_1, fa26_2, aggV, eql26, neq26, bin_eql_bool u4, ra11, rb11, hI', bin_eql_bool u4] <;> with_reducible rfl))
              with_reducible refine Tl.gd3_on ?_
              with_reducible refine Tl.call S11 (f16c (k := k + 7) 5 a b h11) fun h12 S12 _ => ?_
              have ra12 := row_at (i := 2) S12 rfl
              have rb12 := row_at (i := 1) S12 rfl
              repeat (with_reducible apply Tl.val; focus (simp only [bnd_some, bin_add, bin_sub, bin_mul, bin_lss, bin_leq, bin_gtr, bin_geq, bin_eql, bin_neq, un_not, un_neg, goInt, gd_tt, gd_ff, gd_tf, gd_ft, gd_sk, gd3_tt, gd3_ff, gd3_tf, gd3_ft, gd3_sk, Option.map_some, lt_some, pick_t, pick_f, Nat.zero_add, Bool.not_true, Bool.not_false, Bool.true_and, Bool.false_and, Bool.and_true, Bool.and_false, cond_true, cond_false, beq_self_eq_true, Int.reduceBEq, decide_true, decide_false, ld2, ld3, ld9, ld26, ld28, fa26_0, fa26_1, fa26_2, aggV, eql26, neq26, bin_eql_bool u4, ra12, rb12] <;> with_reducible rfl))
              with_reducible refine Tl.gd3_on ?_
              with_reducible refine Tl.call S12 (f16c (k := k + 7) 3 b a h12) fun h13 S13 _ => ?_
              repeat (with_reducible apply Tl.val; focus (simp only [bnd_some, bin_add, bin_sub, bin_mul, bin_lss, bin_leq, bin_gtr, bin_geq, bin_eql, bin_neq, un_not, un_neg, goInt, gd_tt, gd_ff, gd_tf, gd_ft, gd_sk, gd3_tt, gd3_ff, gd3_tf, gd3_ft, gd3_sk, Option.map_some, lt_some, pick_t, pick_f, Nat.zero_add, Bool.not_true, Bool.not_false, Bool.true_and, Bool.false_and, Bool.and_true, Bool.and_false, cond_true, cond_false, beq_self_eq_true, Int.reduceBEq, decide_true, decide_false, ld2, ld3, ld9, ld26, ld28, fa26_0, fa26_1, fa26_2, aggV, eql26, neq26, bin_eql_bool u4, hJ, bin_eql_bool u4] <;> with_reducible rfl))
              with_reducible refine Tl.chk ?_ ?_
              · simp only [ld26, ra8, rb8, ra9, rb9, ra10, rb10, ra12, rb12, ra11, rb11, Option.map_some, aggV, sameO_some, sameC, Bool.and_self, Bool.not_true, Bool.not_false, Bool.or_true, Bool.true_or, Bool.true_and, Bool.false_or]
              exact ⟨_, rfl, rfl⟩
          ·
            repeat (with_reducible apply Tl.val; focus (simp only [bnd_some, bin_add, bin_sub, bin_mul, bin_lss, bin_leq, bin_gtr, bin_geq, bin_eql, bin_neq, un_not, un_neg, goInt, gd_tt, gd_ff, gd_tf, gd_ft, gd_sk, gd3_tt, gd3_ff, gd3_tf, gd3_ft, gd3_sk, Option.map_some, lt_some, pick_t, pick_f, Nat.zero_add, Bool.not_true, Bool.not_false, Bool.true_and, Bool.false_and, Bool.and_true, Bool.and_false, cond_true, cond_false, beq_self_eq_true, Int.reduceBEq, decide_true, decide_false, ld2, ld3, ld9, ld26, ld28, fa26_0, fa26_1, fa26_2, aggV, eql26, neq26, bin_eql_bool u4, ka7, kb7, ra7, rb7, e1, e2, qX, qY, qN] <;> with_reducible rfl))
            with_reducible refine Tl.call S7 (f15c (k := k + 9) b a h7) fun h8 S8 _ => ?_
            have ra8 := row_at (i := 2) S8 rfl
            have rb8 := row_at (i := 1) S8 rfl
            repeat (with_reducible apply Tl.val; focus (simp only [bnd_some, bin_add, bin_sub, bin_mul, bin_lss, bin_leq, bin_gtr, bin_geq, bin_eql, bin_neq, un_not, un_neg, goInt, gd_tt, gd_ff, gd_tf, gd_ft, gd_sk, gd3_tt, gd3_ff, gd3_tf, gd3_ft, gd3_sk, Option.map_some, lt_some, pick_t, pick_f, Nat.zero_add, Bool.not_true, Bool.not_false, Bool.true_and, Bool.false_and, Bool.and_true, Bool.and_false, cond_true, cond_false, beq_self_eq_true, Int.reduceBEq, decide_true, decide_false, ld2, ld3, ld9, ld26, ld28, fa26_0, fa26_1, fa26_2, aggV, eql26, neq26, bin_eql_bool u4, ra8, rb8, wneg, hz', e1, e2, qX, qY, qN] <;> with_reducible rfl))
            with_reducible refine Tl.gd3_on ?_
            with_reducible refine Tl.call S8 (f16c (k := k + 7) 4 a b h8) fun h9 S9 _ => ?_
            have ra9 := row_at (i := 2) S9 rfl
            have rb9 := row_at (i := 1) S9 rfl
            repeat (with_reducible apply Tl.val; focus (simp only [bnd_some, bin_add, bin_sub, bin_mul, bin_lss, bin_leq, bin_gtr, bin_geq, bin_eql, bin_neq, un_not, un_neg, goInt, gd_tt, gd_ff, gd_tf, gd_ft, gd_sk, gd3_tt, gd3_ff, gd3_tf, gd3_ft, gd3_sk, Option.map_some, lt_some, pick_t, pick_f, Nat.zero_add, Bool.not_true, Bool.not_false, Bool.true_and, Bool.false_and, Bool.and_true, Bool.and_false, cond_true, cond_false, beq_self_eq_true, Int.reduceBEq, decide_true, decide_false, ld2, ld3, ld9, ld26, ld28, fa26_0, fa26_1, fa26_2, aggV, eql26, neq26, bin_eql_bool u4, ra9, rb9] <;> with_reducible rfl))
            with_reducible refine Tl.gd3_on ?_
            with_reducible refine Tl.call S9 (f16c (k := k + 7) 3 a b h9) fun h10 S10 _ => ?_
            have ra10 := row_at (i := 2) S10 rfl
            have rb10 := row_at (i := 1) S10 rfl
            rcases hI3 with ⟨q3, hI'⟩ | ⟨q3, hI'⟩
            · rw [q3]
              repeat (with_reducible apply Tl.val; focus (simp only [bnd_some, bin_add, bin_sub, bin_mul, bin_lss, bin_leq, bin_gtr, bin_geq, bin_eql, bin_neq, un_not, un_neg, goInt, gd_tt, gd_ff, gd_tf, gd_ft, gd_sk, gd3_tt, gd3_ff, gd3_tf, gd3_ft, gd3_sk, Option.map_some, lt_some, pick_t, pick_f, Nat.zero_add, Bool.not_true, Bool.not_false, Bool.true_and, Bool.false_and, Bool.and_true, Bool.and_false, cond_true, cond_false, beq_self_eq_true, Int.reduceBEq, decide_true, decide_false, ld2, ld3, ld9, ld26, ld28, fa26_0, fa26_1, fa26_2, aggV, eql26, neq26, bin_eql_bool u4, ra10, rb10, hI', bin_eql_bool u4] <;> with_reducible rfl))
              with_reducible refine Tl.gd3_on ?_
              with_reducible refine Tl.call S10 (f16c (k := k + 7) 5 a b h10) fun h12 S12 _ => ?_
              have ra12 := row_at (i := 2) S12 rfl
              have rb12 := row_at (i := 1) S12 rfl
              repeat (with_reducible apply Tl.val; focus (simp only [bnd_some, bin_add, bin_sub, bin_mul, bin_lss, bin_leq, bin_gtr, bin_geq, bin_eql, bin_neq, un_not, un_neg, goInt, gd_tt, gd_ff, gd_tf, gd_ft, gd_sk, gd3_tt, gd3_ff, gd3_tf, gd3_ft, gd3_sk, Option.map_some, lt_some, pick_t, pick_f, Nat.zero_add, Bool.not_true, Bool.not_false, Bool.true_and, Bool.false_and, Bool.and_true, Bool.and_false, cond_true, cond_false, beq_self_eq_true, Int.reduceBEq, decide_true, decide_false, ld2, ld3, ld9, ld26, ld28, fa26_0, fa26_1, fa26_2, aggV, eql26, neq26, bin_eql_bool u4, ra12, rb12] <;> with_reducible rfl))
              with_reducible refine Tl.gd3_on ?_
              with_reducible refine Tl.call S12 (f16c (k := k + 7) 3 b a h12) fun h13 S13 _ => ?_
              repeat (with_reducible apply Tl.val; focus (simp only [bnd_some, bin_add, bin_sub, bin_mul, bin_lss, bin_leq, bin_gtr, bin_geq, bin_eql, bin_neq, un_not, un_neg, goInt, gd_tt, gd_ff, gd_tf, gd_ft, gd_sk, gd3_tt, gd3_ff, gd3_tf, gd3_ft, gd3_sk, Option.map_some, lt_some, pick_t, pick_f, Nat.zero_add, Bool.not_true, Bool.not_false, Bool.true_and, Bool.false_and, Bool.and_true, Bool.and_false, cond_true, cond_false, beq_self_eq_true, Int.reduceBEq, decide_true, decide_false, ld2, ld3, ld9, ld26, ld28, fa26_0, fa26_1, fa26_2, aggV, eql26, neq26, bin_eql_bool u4, hJ, bin_eql_bool u4] <;> with_reducible rfl))
              with_reducible refine Tl.chk ?_ ?_
              · simp only [ld26, ra8, rb8, ra9, rb9, ra10, rb10, ra12, rb12, Option.map_some, aggV, sameO_some, sameC, Bool.and_self, Bool.not_true, Bool.not_false, Bool.or_true, Bool.true_or, Bool.true_and, Bool.false_or]
              exact ⟨_, rfl, rfl⟩
            · rw [q3]
              repeat (with_reducible apply Tl.val; focus (simp only [bnd_some, bin_add, bin_sub, bin_mul, bin_lss, bin_leq, bin_gtr, bin_geq, bin_eql, bin_neq, un_not, un_neg, goInt, gd_tt, gd_ff, gd_tf, gd_ft, gd_sk, gd3_tt, gd3_ff, gd3_tf, gd3_ft, gd3_sk, Option.map_some, lt_some, pick_t, pick_f, Nat.zero_add, Bool.not_true, Bool.not_false, Bool.true_and, Bool.false_and, Bool.and_true, Bool.and_false, cond_true, cond_false, beq_self_eq_true, Int.reduceBEq, decide_true, decide_false, ld2, ld3, ld9, ld26, ld28, fa26_0, fa26_1, fa26_2, aggV, eql26, neq26, bin_eql_bool u4, ra10, rb10, hI', bin_eql_bool u4] <;> with_reducible rfl))
              with_reducible refine Tl.gd3_on ?_
              with_reducible refine Tl.call S10 (f16c (k := k + 7) 1 a b h10) fun h11 S11 _ => ?_
              have ra11 := row_at (i := 2) S11 rfl
              have rb11 := row_at (i := 1) S11 rfl
              repeat (with_reducible apply Tl.val; focus (simp only [bnd_some, bin_add, bin_sub, bin_mul, bin_lss, bin_leq, bin_gtr, bin_geq, bin_eql, bin_neq, un_not, un_neg, goInt, gd_tt, gd_ff, gd_tf, gd_ft, gd_sk, gd3_tt, gd3_ff, gd3_tf, gd3_ft, gd3_sk, Option.map_some, lt_some, pick_t, pick_f, Nat.zero_add, Bool.not_true, Bool.not_false, Bool.true_and, Bool.false_and, Bool.and_true, Bool.and_false, cond_true, cond_false, beq_self_eq_true, Int.reduceBEq, decide_true, decide_false, ld2, ld3, ld9, ld26, ld28, fa26_0, fa26_1, fa26_2, aggV, eql26, neq26, bin_eql_bool u4, ra11, rb11, hI', bin_eql_bool u4] <;> with_reducible rfl))
              with_reducible refine Tl.gd3_on ?_
              with_reducible refine Tl.call S11 (f16c (k := k + 7) 5 a b h11) fun h12 S12 _ => ?_
              have ra12 := row_at (i := 2) S12 rfl
              have rb12 := row_at (i := 1) S12 rfl
              repeat (with_reducible apply Tl.val; focus (simp only [bnd_some, bin_add, bin_sub, bin_mul, bin_lss, bin_leq, bin_gtr, bin_geq, bin_eql, bin_neq, un_not, un_neg, goInt, gd_tt, gd_ff, gd_tf, gd_ft, gd_sk, gd3_tt, gd3_ff, gd3_tf, gd3_ft, gd3_sk, Option.map_some, lt_some, pick_t, pick_f, Nat.zero_add, Bool.not_true, Bool.not_false, Bool.true_and, Bool.false_and, Bool.and_true, Bool.and_false, cond_true, cond_false, beq_self_eq_true, Int.reduceBEq, decide_true, decide_false, ld2, ld3, ld9, ld26, ld28, fa26_0, fa26_1, fa26_2, aggV, eql26, neq26, bin_eql_bool u4, ra12, rb12] <;> with_reducible rfl))
              with_reducible refine Tl.gd3_on ?_
              with_reducible refine Tl.call S12 (f16c (k := k + 7) 3 b a h12) fun h13 S13 _ => ?_
              repeat (with_reducible apply Tl.val; focus (simp only [bnd_some, bin_add, bin_sub, bin_mul, bin_lss, bin_leq, bin_gtr, bin_geq, bin_eql, bin_neq, un_not, un_neg, goInt, gd_tt, gd_ff, gd_tf, gd_ft, gd_sk, gd3_tt, gd3_ff, gd3_tf, gd3_ft, gd3_sk, Option.map_some, lt_some, pick_t, pick_f, Nat.zero_add, Bool.not_true, Bool.not_false, Bool.true_and, Bool.false_and, Bool.and_true, Bool.and_false, cond_true, cond_false, beq_self_eq_true, Int.reduceBEq, decide_true, decide_false, ld2, ld3, ld9, ld26, ld28, fa26_0, fa26_1, fa26_2, aggV, eql26, neq26, bin_eql_bool u4, hJ, bin_eql_bool u4] <;> with_reducible rfl))
              with_reducible refine Tl.chk ?_ ?_
              · simp only [ld26, ra8, rb8, ra9, rb9, ra10, rb10, ra12, rb12, ra11, rb11, Option.map_some, aggV, sameO_some, sameC, Bool.and_self, Bool.not_true, Bool.not_false, Bool.or_true, Bool.true_or, Bool.true_and, Bool.false_or]
              exact ⟨_, rfl, rfl⟩
      · have qN : (a.cmp b != 0) = true := ne0 _ (by simp at qX; omega)
        repeat (with_reducible apply Tl.val; focus (simp only [bnd_some, bin_add, bin_sub, bin_mul, bin_lss, bin_leq, bin_gtr, bin_geq, bin_eql, bin_neq, un_not, un_neg, goInt, gd_tt, gd_ff, gd_tf, gd_ft, gd_sk, gd3_tt, gd3_ff, gd3_tf, gd3_ft, gd3_sk, Option.map_some, lt_some, pick_t, pick_f, Nat.zero_add, Bool.not_true, Bool.not_false, Bool.true_and, Bool.false_and, Bool.and_true, Bool.and_false, cond_true, cond_false, beq_self_eq_true, Int.reduceBEq, decide_true, decide_false, ld2, ld3, ld9, ld26, ld28, fa26_0, fa26_1, fa26_2, aggV, eql26, neq26, bin_eql_bool u4, ka7, kb7, ra7, rb7, e1, e2, qX, qN] <;> with_reducible rfl))
        with_reducible refine Tl.call S7 (f15c (k := k + 9) b a h7) fun h8 S8 _ => ?_
        have ra8 := row_at (i := 2) S8 rfl
        have rb8 := row_at (i := 1) S8 rfl
        repeat (with_reducible apply Tl.val; focus (simp only [bnd_some, bin_add, bin_sub, bin_mul, bin_lss, bin_leq, bin_gtr, bin_geq, bin_eql, bin_neq, un_not, un_neg, goInt, gd_tt, gd_ff, gd_tf, gd_ft, gd_sk, gd3_tt, gd3_ff, gd3_tf, gd3_ft, gd3_sk, Option.map_some, lt_some, pick_t, pick_f, Nat.zero_add, Bool.not_true, Bool.not_false, Bool.true_and, Bool.false_and, Bool.and_true, Bool.and_false, cond_true, cond_false, beq_self_eq_true, Int.reduceBEq, decide_true, decide_false, ld2, ld3, ld9, ld26, ld28, fa26_0, fa26_1, fa26_2, aggV, eql26, neq26, bin_eql_bool u4, ra8, rb8, wneg, hz', e1, e2, qX, qN] <;> with_reducible rfl))
        with_reducible refine Tl.gd3_on ?_
        with_reducible refine Tl.call S8 (f16c (k := k + 7) 4 a b h8) fun h9 S9 _ => ?_
        have ra9 := row_at (i := 2) S9 rfl
        have rb9 := row_at (i := 1) S9 rfl
        repeat (with_reducible apply Tl.val; focus (simp only [bnd_some, bin_add, bin_sub, bin_mul, bin_lss, bin_leq, bin_gtr, bin_geq, bin_eql, bin_neq, un_not, un_neg, goInt, gd_tt, gd_ff, gd_tf, gd_ft, gd_sk, gd3_tt, gd3_ff, gd3_tf, gd3_ft, gd3_sk, Option.map_some, lt_some, pick_t, pick_f, Nat.zero_add, Bool.not_true, Bool.not_false, Bool.true_and, Bool.false_and, Bool.and_true, Bool.and_false, cond_true, cond_false, beq_self_eq_true, Int.reduceBEq, decide_true, decide_false, ld2, ld3, ld9, ld26, ld28, fa26_0, fa26_1, fa26_2, aggV, eql26, neq26, bin_eql_bool u4, ra9, rb9] <;> with_reducible rfl))
        with_reducible refine Tl.gd3_on ?_
        with_reducible refine Tl.call S9 (f16c (k := k + 7) 3 a b h9) fun h10 S10 _ => ?_
        have ra10 := row_at (i := 2) S10 rfl
        have rb10 := row_at (i := 1) S10 rfl
        rcases hI3 with ⟨q3, hI'⟩ | ⟨q3, hI'⟩
        · rw [q3]
          repeat (with_reducible apply Tl.val; focus (simp only [bnd_some, bin_add, bin_sub, bin_mul, bin_lss, bin_leq, bin_gtr, bin_geq, bin_eql, bin_neq, un_not, un_neg, goInt, gd_tt, gd_ff, gd_tf, gd_ft, gd_sk, gd3_tt, gd3_ff, gd3_tf, gd3_ft, gd3_sk, Option.map_some, lt_some, pick_t, pick_f, Nat.zero_add, Bool.not_true, Bool.not_false, Bool.true_and, Bool.false_and, Bool.and_true, Bool.and_false, cond_true, cond_false, beq_self_eq_true, Int.reduceBEq, decide_true, decide_false, ld2, ld3, ld9, ld26, ld28, fa26_0, fa26_1, fa26_2, aggV, eql26, neq26, bin_eql_bool u4, ra10, rb10, hI', bin_eql_bool u4] <;> with_reducible rfl))
          with_reducible refine Tl.gd3_on ?_
          with_reducible refine Tl.call S10 (f16c (k := k + 7) 5 a b h10) fun h12 S12 _ => ?_
          have ra12 := row_at (i := 2) S12 rfl
          have rb12 := row_at (i := 1) S12 rfl
          repeat (with_reducible apply Tl.val; focus (simp only [bnd_some, bin_add, bin_sub, bin_mul, bin_lss, bin_leq, bin_gtr, bin_geq, bin_eql, bin_neq, un_not, un_neg, goInt, gd_tt, gd_ff, gd_tf, gd_ft, gd_sk, gd3_tt, gd3_ff, gd3_tf, gd3_ft, gd3_sk, Option.map_some, lt_some, pick_t, pick_f, Nat.zero_add, Bool.not_true, Bool.not_false, Bool.true_and, Bool.false_and, Bool.and_true, Bool.and_false, cond_true, cond_false, beq_self_eq_true, Int.reduceBEq, decide_true, decide_false, ld2, ld3, ld9, ld26, ld28, fa26_0, fa26_1, fa26_2, aggV, eql26, neq26, bin_eql_bool u4, ra12, rb12] <;> with_reducible rfl))
          with_reducible refine Tl.gd3_on ?_
          with_reducible refine Tl.call S12 (f16c (k := k + 7) 3 b a h12) fun h13 S13 _ => ?_
          repeat (with_reducible apply Tl.val; focus (simp only [bnd_some, bin_add, bin_sub, bin_mul, bin_lss, bin_leq, bin_gtr, bin_geq, bin_eql, bin_neq, un_not, un_neg, goInt, gd_tt, gd_ff, gd_tf, gd_ft, gd_sk, gd3_tt, gd3_ff, gd3_tf, gd3_ft, gd3_sk, Option.map_some, lt_some, pick_t, pick_f, Nat.zero_add, Bool.not_true, Bool.not_false, Bool.true_and, Bool.false_and, Bool.and_true, Bool.and_false, cond_true, cond_false, beq_self_eq_true, Int.reduceBEq, decide_true, decide_false, ld2, ld3, ld9, ld26, ld28, fa26_0, fa26_1, fa26_2, aggV, eql26, neq26, bin_eql_bool u4, hJ, bin_eql_bool u4] <;> with_reducible rfl))
          with_reducible refine Tl.chk ?_ ?_
          · simp only [ld26, ra8, rb8, ra9, rb9, ra10, rb10, ra12, rb12, Option.map_some, aggV, sameO_some, sameC, Bool.and_self, Bool.not_true, Bool.not_false, Bool.or_true, Bool.true_or, Bool.true_and, Bool.false_or]
          exact ⟨_, rfl, rfl⟩
        · rw [q3]
          repeat (with_reducible apply Tl.val; focus (simp only [bnd_some, bin_add, bin_sub, bin_mul, bin_lss, bin_leq, bin_gtr, bin_geq, bin_eql, bin_neq, un_not, un_neg, goInt, gd_tt, gd_ff, gd_tf, gd_ft, gd_sk, gd3_tt, gd3_ff, gd3_tf, gd3_ft, gd3_sk, Option.map_some, lt_some, pick_t, pick_f, Nat.zero_add, Bool.not_true, Bool.not_false, Bool.true_and, Bool.false_and, Bool.and_true, Bool.and_false, cond_true, cond_false, beq_self_eq_true, Int.reduceBEq, decide_true, decide_false, ld2, ld3, ld9, ld26, ld28, fa26_0, fa26_1, fa26_2, aggV, eql26, neq26, bin_eql_bool u4, ra10, rb10, hI', bin_eql_bool u4] <;> with_reducible rfl))
          with_reducible refine Tl.gd3_on ?_
          with_reducible refine Tl.call S10 (f16c (k := k + 7) 1 a b h10) fun h11 S11 _ => ?_
          have ra11 := row_at (i := 2) S11 rfl
          have rb11 := row_at (i := 1) S11 rfl
          repeat (with_reducible apply Tl.val; focus (simp only [bnd_some, bin_add, bin_sub, bin_mul, bin_lss, bin_leq, bin_gtr, bin_geq, bin_eql, bin_neq, un_not, un_neg, goInt, gd_tt, gd_ff, gd_tf, gd_ft, gd_sk, gd3_tt, gd3_ff, gd3_tf, gd3_ft, gd3_sk, Option.map_some, lt_some, pick_t, pick_f, Nat.zero_add, Bool.not_true, Bool.not_false, Bool.true_and, Bool.false_and, Bool.and_true, Bool.and_false, cond_true, cond_false, beq_self_eq_true, Int.reduceBEq, decide_true, decide_false, ld2, ld3, ld9, ld26, ld28, fa26_0, fa26_1, fa26_2, aggV, eql26, neq26, bin_eql_bool u4, ra11, rb11, hI', bin_eql_bool u4] <;> with_reducible rfl))
          with_reducible refine Tl.gd3_on ?_
          with_reducible refine Tl.call S11 (f16c (k := k + 7) 5 a b h11) fun h12 S12 _ => ?_
          have ra12 := row_at (i := 2) S12 rfl
          have rb12 := row_at (i := 1) S12 rfl
          repeat (with_reducible apply Tl.val; focus (simp only [bnd_some, bin_add, bin_sub, bin_mul, bin_lss, bin_leq, bin_gtr, bin_geq, bin_eql, bin_neq, un_not, un_neg, goInt, gd_tt, gd_ff, gd_tf, gd_ft, gd_sk, gd3_tt, gd3_ff, gd3_tf, gd3_ft, gd3_sk, Option.map_some, lt_some, pick_t, pick_f, Nat.zero_add, Bool.not_true, Bool.not_false, Bool.true_and, Bool.false_and, Bool.and_true, Bool.and_false, cond_true, cond_false, beq_self_eq_true, Int.reduceBEq, decide_true, decide_false, ld2, ld3, ld9, ld26, ld28, fa26_0, fa26_1, fa26_2, aggV, eql26, neq26, bin_eql_bool u4, ra12, rb12] <;> with_reducible rfl))
          with_reducible refine Tl.gd3_on ?_
          with_reducible refine Tl.call S12 (f16c (k := k + 7) 3 b a h12) fun h13 S13 _ => ?_
          repeat (with_reducible apply Tl.val; focus (simp only [bnd_some, bin_add, bin_sub, bin_mul, bin_lss, bin_leq, bin_gtr, bin_geq, bin_eql, bin_neq, un_not, un_neg, goInt, gd_tt, gd_ff, gd_tf, gd_ft, gd_sk, gd3_tt, gd3_ff, gd3_tf, gd3_ft, gd3_sk, Option.map_some, lt_some, pick_t, pick_f, Nat.zero_add, Bool.not_true, Bool.not_false, Bool.true_and, Bool.false_and, Bool.and_true, Bool.and_false, cond_true, cond_false, beq_self_eq_true, Int.reduceBEq, decide_true, decide_false, ld2, ld3, ld9, ld26, ld28, fa26_0, fa26_1, fa26_2, aggV, eql26, neq26, bin_eql_bool u4, hJ, bin_eql_bool u4] <;> with_reducible rfl))
          with_reducible refine Tl.chk ?_ ?_
          · simp only [ld26, ra8, rb8, ra9, rb9, ra10, rb10, ra12, rb12, ra11, rb11, Option.map_some, aggV, sameO_some, sameC, Bool.and_self, Bool.not_true, Bool.not_false, Bool.or_true, Bool.true_or, Bool.true_and, Bool.false_or]
          exact ⟨_, rfl, rfl⟩
end Go.Proofs.Ytpiibdegmimckaa.Sh
