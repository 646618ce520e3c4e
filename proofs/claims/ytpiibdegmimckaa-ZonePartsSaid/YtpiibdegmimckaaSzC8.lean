/- 'ZoneJoin' comes to true. -/
import Derived.Test.YtpiibdegmimckaaSzC7
set_option linter.unusedVariables false
set_option linter.unusedSimpArgs false
namespace Go.Proofs.Ytpiibdegmimckaa.Sh
open Go Go.RowKit Go.Proofs.Ev Go.Lib

theorem st28 : Try.prog.underlying 28 = some (.struct (Try.prog.fieldsOf 28)) := by kernel_rfl
theorem eg28 : Try.prog.eqGuardType Try.prog.depth 28 = false := by kernel_rfl
theorem sh28 : Try.prog.stoodInHeld 28 = false := by kernel_rfl
theorem fs28 : (Try.prog.fieldsOf 28).toList = [{ name := "Count", type := 3, offset := 0, embedded := false, tag := "", pkgPath := "", byteOffset := 0 }, { name := "Nulls", type := 3, offset := 1, embedded := false, tag := "", pkgPath := "", byteOffset := 8 }, { name := "Min", type := 26, offset := 2, embedded := false, tag := "", pkgPath := "", byteOffset := 16 }, { name := "Max", type := 26, offset := 5, embedded := false, tag := "", pkgPath := "", byteOffset := 48 }] := by kernel_rfl
theorem pt28_0 (z : ZoneD) : prun Try.prog (part 3 (zl z).toArray 0) = some (.int .i64 z.cnt) := by kernel_rfl
theorem pt28_1 (z : ZoneD) : prun Try.prog (part 3 (zl z).toArray 1) = some (.int .i64 z.nul) := by kernel_rfl
theorem pt28_2 (z : ZoneD) : prun Try.prog (part 26 (zl z).toArray 2) = some z.mn.v := by kernel_rfl
theorem pt28_3 (z : ZoneD) : prun Try.prog (part 26 (zl z).toArray 5) = some z.mx.v := by kernel_rfl
theorem eq28 (d : Nat) (a b : ZoneD) : prun Try.prog (Op.equalIn (d + 3) 28 (zv a) (zv b)) = some (decide (a = b)) := by
  unfold zv
  rw [prun_equal_struct st28 sh28, fs28]
  simp only [prunFields, ne_eq, String.reduceEq, not_false_eq_true, if_true, pt28_0, pt28_1, pt28_2, pt28_3, Option.bind_some, prun_equal_int u3, eq26]
  obtain ⟨a1, a2, a3, a4⟩ := a
  obtain ⟨b1, b2, b3, b4⟩ := b
  simp only [ZoneD.mk.injEq]
  by_cases h1 : a1 = b1
  · by_cases h2 : a2 = b2
    · by_cases h3 : a3 = b3
      · by_cases h4 : a4 = b4 <;> simp [h1, h2, h3, h4]
      · simp [h1, h2, h3]
    · have : (a2 == b2) = false := by simpa using h2
      simp [h1, h2, this]
  · have : (a1 == b1) = false := by simpa using h1
    simp [h1, this]
theorem eql28 (a b : ZoneD) {x y : Operand} : pBin Try.prog .eql 28 x y (zv a) (zv b) = some (.bool (decide (a = b))) := bin_eql_agg rfl rfl eg28 (eq28 9997 a b)

theorem cells_nil (h : AH) : Cells h (.slice none 0 0) [] := .inl ⟨rfl, rfl⟩
theorem f3 {k : Nat} {h : AH} {v0 v1 v2 : Value} {a b c : List CellD} (A : Cells h v0 a) (B : Cells h v1 b) (C : Cells h v2 c) :
    Tl (F3 (eInv env (k + 200)) (k + 200) v0 v1 v2 h) fun r => r.1 = .bool true := by
  unfold F3
  obtain ⟨ba, ea, ha⟩ := f9c (k := k + 198) A (by omega)
  obtain ⟨bb, eb, hb⟩ := f9c (k := k + 198) B (by omega)
  obtain ⟨bc, ec, hc⟩ := f9c (k := k + 198) C (by omega)
  repeat (with_reducible apply Tl.val; focus (simp only [bnd_some, bin_add, bin_sub, bin_mul, bin_lss, bin_leq, bin_gtr, bin_geq, bin_eql, bin_neq, un_not, un_neg, goInt, gd_tt, gd_ff, gd_tf, gd_ft, gd_sk, gd3_tt, gd3_ff, gd3_tf, gd3_ft, gd3_sk, Option.map_some, lt_some, pick_t, pick_f, Nat.zero_add, Bool.not_true, Bool.not_false, Bool.true_and, Bool.false_and, Bool.and_true, Bool.and_false, cond_true, cond_false, beq_self_eq_true, Int.reduceBEq, decide_true, decide_false, ld2, ld3, ld9, ld26, ld28, fa26_0, fa26_1, fa26_2, fa28_0, fa28_1, fa28_2, fa28_3, aggV, aggZ, eql26, neq26, eql28, bin_eql_bool u4, lives_call] <;> with_reducible rfl))
  with_reducible refine Tl.brF ?_
  cases ba
  · repeat (with_reducible apply Tl.val; focus (simp only [bnd_some, bin_add, bin_sub, bin_mul, bin_lss, bin_leq, bin_gtr, bin_geq, bin_eql, bin_neq, un_not, un_neg, goInt, gd_tt, gd_ff, gd_tf, gd_ft, gd_sk, gd3_tt, gd3_ff, gd3_tf, gd3_ft, gd3_sk, Option.map_some, lt_some, pick_t, pick_f, Nat.zero_add, Bool.not_true, Bool.not_false, Bool.true_and, Bool.false_and, Bool.and_true, Bool.and_false, cond_true, cond_false, beq_self_eq_true, Int.reduceBEq, decide_true, decide_false, ld2, ld3, ld9, ld26, ld28, fa26_0, fa26_1, fa26_2, fa28_0, fa28_1, fa28_2, fa28_3, aggV, aggZ, eql26, neq26, eql28, bin_eql_bool u4, ea] <;> with_reducible rfl))
    with_reducible refine Tl.brT ?_
    exact ⟨_, rfl, rfl⟩
  cases bb
  · repeat (with_reducible apply Tl.val; focus (simp only [bnd_some, bin_add, bin_sub, bin_mul, bin_lss, bin_leq, bin_gtr, bin_geq, bin_eql, bin_neq, un_not, un_neg, goInt, gd_tt, gd_ff, gd_tf, gd_ft, gd_sk, gd3_tt, gd3_ff, gd3_tf, gd3_ft, gd3_sk, Option.map_some, lt_some, pick_t, pick_f, Nat.zero_add, Bool.not_true, Bool.not_false, Bool.true_and, Bool.false_and, Bool.and_true, Bool.and_false, cond_true, cond_false, beq_self_eq_true, Int.reduceBEq, decide_true, decide_false, ld2, ld3, ld9, ld26, ld28, fa26_0, fa26_1, fa26_2, fa28_0, fa28_1, fa28_2, fa28_3, aggV, aggZ, eql26, neq26, eql28, bin_eql_bool u4, ea, eb] <;> with_reducible rfl))
    with_reducible refine Tl.brT ?_
    exact ⟨_, rfl, rfl⟩
  cases bc
  · repeat (with_reducible apply Tl.val; focus (simp only [bnd_some, bin_add, bin_sub, bin_mul, bin_lss, bin_leq, bin_gtr, bin_geq, bin_eql, bin_neq, un_not, un_neg, goInt, gd_tt, gd_ff, gd_tf, gd_ft, gd_sk, gd3_tt, gd3_ff, gd3_tf, gd3_ft, gd3_sk, Option.map_some, lt_some, pick_t, pick_f, Nat.zero_add, Bool.not_true, Bool.not_false, Bool.true_and, Bool.false_and, Bool.and_true, Bool.and_false, cond_true, cond_false, beq_self_eq_true, Int.reduceBEq, decide_true, decide_false, ld2, ld3, ld9, ld26, ld28, fa26_0, fa26_1, fa26_2, fa28_0, fa28_1, fa28_2, fa28_3, aggV, aggZ, eql26, neq26, eql28, bin_eql_bool u4, ea, eb, ec] <;> with_reducible rfl))
    with_reducible refine Tl.brT ?_
    exact ⟨_, rfl, rfl⟩
  have ha := ha rfl
  have hb := hb rfl
  have hc := hc rfl
  have E1 := joinZ_of a b (by omega) (by omega)
  have E2 : joinZ (ofZ b) (ofZ a) = ofZ (a ++ b) := (joinZ_of b a (by omega) (by omega)).trans (ofZ_swap b a (by omega) (by omega))
  have E3 := joinZ_of (a ++ b) c (by simp; omega) (by omega)
  have E4 := joinZ_of b c (by omega) (by omega)
  have E5 := joinZ_of a (b ++ c) (by omega) (by simp; omega)
  have E6 := joinZ_of a [] (by omega) (by simp)
  rw [List.append_nil] at E6
  rw [← List.append_assoc] at E5
  repeat (with_reducible apply Tl.val; focus (simp only [bnd_some, bin_add, bin_sub, bin_mul, bin_lss, bin_leq, bin_gtr, bin_geq, bin_eql, bin_neq, un_not, un_neg, goInt, gd_tt, gd_ff, gd_tf, gd_ft, gd_sk, gd3_tt, gd3_ff, gd3_tf, gd3_ft, gd3_sk, Option.map_some, lt_some, pick_t, pick_f, Nat.zero_add, Bool.not_true, Bool.not_false, Bool.true_and, Bool.false_and, Bool.and_true, Bool.and_false, cond_true, cond_false, beq_self_eq_true, Int.reduceBEq, decide_true, decide_false, ld2, ld3, ld9, ld26, ld28, fa26_0, fa26_1, fa26_2, fa28_0, fa28_1, fa28_2, fa28_3, aggV, aggZ, eql26, neq26, eql28, bin_eql_bool u4, ea, eb, ec] <;> with_reducible rfl))
  with_reducible refine Tl.brF ?_
  with_reducible refine Tl.call (Sta.init h) (f10c (k := k + 187) A (by omega) (by omega)) fun h1 S1 g1 => ?_
  with_reducible refine Tl.call S1 (f10c (k := k + 187) (B.grow S1.done) (by omega) (by omega)) fun h2 S2 g2 => ?_
  with_reducible refine Tl.call S2 (f10c (k := k + 187) (C.grow S2.done) (by omega) (by omega)) fun h3 S3 g3 => ?_
  refine Tl.alloc S3 ze28 rfl fun b1 h4 S4 _ => ?_
  refine Tl.alloc S4 ze28 rfl fun b2 h5 S5 _ => ?_
  refine Tl.alloc S5 ze28 rfl fun b3 h6 S6 _ => ?_
  refine Tl.store S6 2 rfl sz28 rfl rfl (of_decide_eq_true rfl) fun h7 S7 => ?_
  refine Tl.store S7 1 rfl sz28 rfl rfl (of_decide_eq_true rfl) fun h8 S8 => ?_
  refine Tl.store S8 0 rfl sz28 rfl rfl (of_decide_eq_true rfl) fun h9 S9 => ?_
  have S9 : Sta h.n h h9 [zb b3 (ofZ c), zb b2 (ofZ b), zb b1 (ofZ a)] := S9
  obtain ⟨x9, _⟩ := z_at S9 2 rfl
  obtain ⟨y9, _⟩ := z_at S9 1 rfl
  repeat (with_reducible apply Tl.val; focus (simp only [bnd_some, bin_add, bin_sub, bin_mul, bin_lss, bin_leq, bin_gtr, bin_geq, bin_eql, bin_neq, un_not, un_neg, goInt, gd_tt, gd_ff, gd_tf, gd_ft, gd_sk, gd3_tt, gd3_ff, gd3_tf, gd3_ft, gd3_sk, Option.map_some, lt_some, pick_t, pick_f, Nat.zero_add, Bool.not_true, Bool.not_false, Bool.true_and, Bool.false_and, Bool.and_true, Bool.and_false, cond_true, cond_false, beq_self_eq_true, Int.reduceBEq, decide_true, decide_false, ld2, ld3, ld9, ld26, ld28, fa26_0, fa26_1, fa26_2, fa28_0, fa28_1, fa28_2, fa28_3, aggV, aggZ, eql26, neq26, eql28, bin_eql_bool u4, x9, y9] <;> with_reducible rfl))
  with_reducible refine Tl.call S9 (f11c (k := k + 188) (ofZ a) (ofZ b) h9) fun h10 S10 g10 => ?_
  refine Tl.alloc S10 ze28 rfl fun b4 h11 S11 _ => ?_
  refine Tl.store S11 0 rfl sz28 rfl rfl (of_decide_eq_true rfl) fun h12 S12 => ?_
  have S12 : Sta h.n h h12 [zb b4 (joinZ (ofZ a) (ofZ b)), zb b3 (ofZ c), zb b2 (ofZ b), zb b1 (ofZ a)] := S12
  rw [E1] at S12
  obtain ⟨w12, _⟩ := z_at S12 0 rfl
  repeat (with_reducible apply Tl.val; focus (simp only [bnd_some, bin_add, bin_sub, bin_mul, bin_lss, bin_leq, bin_gtr, bin_geq, bin_eql, bin_neq, un_not, un_neg, goInt, gd_tt, gd_ff, gd_tf, gd_ft, gd_sk, gd3_tt, gd3_ff, gd3_tf, gd3_ft, gd3_sk, Option.map_some, lt_some, pick_t, pick_f, Nat.zero_add, Bool.not_true, Bool.not_false, Bool.true_and, Bool.false_and, Bool.and_true, Bool.and_false, cond_true, cond_false, beq_self_eq_true, Int.reduceBEq, decide_true, decide_false, ld2, ld3, ld9, ld26, ld28, fa26_0, fa26_1, fa26_2, fa28_0, fa28_1, fa28_2, fa28_3, aggV, aggZ, eql26, neq26, eql28, bin_eql_bool u4, w12] <;> with_reducible rfl))
  with_reducible refine Tl.seq (f12c (k := k + 199) (A.grow S12.done) (by omega)) ?_
  rintro ⟨v', h13⟩ ⟨b', X, hb', g13⟩
  have S13 := S12.call g13
  obtain ⟨v'', h14, b'', e1, X2, hb'', g14⟩ := append_own app22 X (SlV.grow (B.grow S12.done) g13) (by simp; omega) (one_crows b) hb'
  have S14 := S12.call (g13.trans' g14)
  obtain ⟨w13, _⟩ := z_at S13 0 rfl
  obtain ⟨w14, _⟩ := z_at S14 0 rfl
  with_reducible refine Tl.val e1 ?_
  have AB : Cells h14 v'' (a ++ b) := by
    unfold Cells
    rw [List.map_append]
    exact X2.slV
  with_reducible refine Tl.call S14 (f10c (k := k + 187) AB (by simp; omega) (by simp; omega)) fun h15 S15 g15 => ?_
  obtain ⟨w15, _⟩ := z_at S15 0 rfl
  obtain ⟨z15, _⟩ := z_at S15 1 rfl
  obtain ⟨y15, _⟩ := z_at S15 2 rfl
  obtain ⟨x15, _⟩ := z_at S15 3 rfl
  repeat (with_reducible apply Tl.val; focus (simp only [bnd_some, bin_add, bin_sub, bin_mul, bin_lss, bin_leq, bin_gtr, bin_geq, bin_eql, bin_neq, un_not, un_neg, goInt, gd_tt, gd_ff, gd_tf, gd_ft, gd_sk, gd3_tt, gd3_ff, gd3_tf, gd3_ft, gd3_sk, Option.map_some, lt_some, pick_t, pick_f, Nat.zero_add, Bool.not_true, Bool.not_false, Bool.true_and, Bool.false_and, Bool.and_true, Bool.and_false, cond_true, cond_false, beq_self_eq_true, Int.reduceBEq, decide_true, decide_false, ld2, ld3, ld9, ld26, ld28, fa26_0, fa26_1, fa26_2, fa28_0, fa28_1, fa28_2, fa28_3, aggV, aggZ, eql26, neq26, eql28, bin_eql_bool u4, w15, x15, y15] <;> with_reducible rfl))
  with_reducible refine Tl.gd3_on ?_
  with_reducible refine Tl.call S15 (f11c (k := k + 188) (ofZ b) (ofZ a) h15) fun h16 S16 g16 => ?_
  rw [E2]
  obtain ⟨w16, _⟩ := z_at S16 0 rfl
  obtain ⟨z16, _⟩ := z_at S16 1 rfl
  obtain ⟨y16, _⟩ := z_at S16 2 rfl
  obtain ⟨x16, _⟩ := z_at S16 3 rfl
  repeat (with_reducible apply Tl.val; focus (simp only [bnd_some, bin_add, bin_sub, bin_mul, bin_lss, bin_leq, bin_gtr, bin_geq, bin_eql, bin_neq, un_not, un_neg, goInt, gd_tt, gd_ff, gd_tf, gd_ft, gd_sk, gd3_tt, gd3_ff, gd3_tf, gd3_ft, gd3_sk, Option.map_some, lt_some, pick_t, pick_f, Nat.zero_add, Bool.not_true, Bool.not_false, Bool.true_and, Bool.false_and, Bool.and_true, Bool.and_false, cond_true, cond_false, beq_self_eq_true, Int.reduceBEq, decide_true, decide_false, ld2, ld3, ld9, ld26, ld28, fa26_0, fa26_1, fa26_2, fa28_0, fa28_1, fa28_2, fa28_3, aggV, aggZ, eql26, neq26, eql28, bin_eql_bool u4, w16, x16, y16, z16] <;> with_reducible rfl))
  with_reducible refine Tl.gd3_on ?_
  with_reducible refine Tl.call S16 (f11c (k := k + 188) (ofZ (a ++ b)) (ofZ c) h16) fun h17 S17 g17 => ?_
  rw [E3]
  obtain ⟨w17, _⟩ := z_at S17 0 rfl
  obtain ⟨z17, _⟩ := z_at S17 1 rfl
  obtain ⟨y17, _⟩ := z_at S17 2 rfl
  obtain ⟨x17, _⟩ := z_at S17 3 rfl
  repeat (with_reducible apply Tl.val; focus (simp only [bnd_some, bin_add, bin_sub, bin_mul, bin_lss, bin_leq, bin_gtr, bin_geq, bin_eql, bin_neq, un_not, un_neg, goInt, gd_tt, gd_ff, gd_tf, gd_ft, gd_sk, gd3_tt, gd3_ff, gd3_tf, gd3_ft, gd3_sk, Option.map_some, lt_some, pick_t, pick_f, Nat.zero_add, Bool.not_true, Bool.not_false, Bool.true_and, Bool.false_and, Bool.and_true, Bool.and_false, cond_true, cond_false, beq_self_eq_true, Int.reduceBEq, decide_true, decide_false, ld2, ld3, ld9, ld26, ld28, fa26_0, fa26_1, fa26_2, fa28_0, fa28_1, fa28_2, fa28_3, aggV, aggZ, eql26, neq26, eql28, bin_eql_bool u4, w17, x17, y17, z17] <;> with_reducible rfl))
  with_reducible refine Tl.gd3_on ?_
  with_reducible refine Tl.call S17 (f11c (k := k + 188) (ofZ b) (ofZ c) h17) fun h18 S18 g18 => ?_
  rw [E4]
  obtain ⟨x18, _⟩ := z_at S18 3 rfl
  with_reducible refine Tl.gd3_on ?_
  with_reducible refine Tl.call S18 (f11c (k := k + 188) (ofZ a) (ofZ (b ++ c)) h18) fun h19 S19 g19 => ?_
  rw [E5]
  obtain ⟨x19, _⟩ := z_at S19 3 rfl
  repeat (with_reducible apply Tl.val; focus (simp only [bnd_some, bin_add, bin_sub, bin_mul, bin_lss, bin_leq, bin_gtr, bin_geq, bin_eql, bin_neq, un_not, un_neg, goInt, gd_tt, gd_ff, gd_tf, gd_ft, gd_sk, gd3_tt, gd3_ff, gd3_tf, gd3_ft, gd3_sk, Option.map_some, lt_some, pick_t, pick_f, Nat.zero_add, Bool.not_true, Bool.not_false, Bool.true_and, Bool.false_and, Bool.and_true, Bool.and_false, cond_true, cond_false, beq_self_eq_true, Int.reduceBEq, decide_true, decide_false, ld2, ld3, ld9, ld26, ld28, fa26_0, fa26_1, fa26_2, fa28_0, fa28_1, fa28_2, fa28_3, aggV, aggZ, eql26, neq26, eql28, bin_eql_bool u4, x19] <;> with_reducible rfl))
  with_reducible refine Tl.gd3_on ?_
  with_reducible refine Tl.call S19 (f10c (k := k + 187) (l := []) (cells_nil h19) (by simp) (by simp)) fun h20 S20 g20 => ?_
  obtain ⟨x20, _⟩ := z_at S20 3 rfl
  with_reducible refine Tl.gd3_on ?_
  with_reducible refine Tl.call S20 (f11c (k := k + 188) (ofZ a) (ofZ []) h20) fun h21 S21 g21 => ?_
  rw [E6]
  obtain ⟨x21, _⟩ := z_at S21 3 rfl
  repeat (with_reducible apply Tl.val; focus (simp only [bnd_some, bin_add, bin_sub, bin_mul, bin_lss, bin_leq, bin_gtr, bin_geq, bin_eql, bin_neq, un_not, un_neg, goInt, gd_tt, gd_ff, gd_tf, gd_ft, gd_sk, gd3_tt, gd3_ff, gd3_tf, gd3_ft, gd3_sk, Option.map_some, lt_some, pick_t, pick_f, Nat.zero_add, Bool.not_true, Bool.not_false, Bool.true_and, Bool.false_and, Bool.and_true, Bool.and_false, cond_true, cond_false, beq_self_eq_true, Int.reduceBEq, decide_true, decide_false, ld2, ld3, ld9, ld26, ld28, fa26_0, fa26_1, fa26_2, fa28_0, fa28_1, fa28_2, fa28_3, aggV, aggZ, eql26, neq26, eql28, bin_eql_bool u4, x21] <;> with_reducible rfl))
  with_reducible refine Tl.chk ?_ ?_
  · simp only [ld28, w12, w13, w14, w15, x15, x16, x17, x18, x19, x20, x21, y15, y16, y17, z15, z16, z17, w16, w17, Option.map_some, aggZ, sameO_some, sameZ, Bool.and_self, Bool.not_true, Bool.not_false, Bool.or_true, Bool.true_or, Bool.true_and, Bool.false_or]
  exact ⟨_, rfl, rfl⟩
end Go.Proofs.Ytpiibdegmimckaa.Sh
