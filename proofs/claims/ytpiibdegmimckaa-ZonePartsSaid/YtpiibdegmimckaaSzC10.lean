/- What the functions of the zone's package come to: 'May', 'Cell', 'Check'. -/
import Derived.Test.YtpiibdegmimckaaSzC9
set_option linter.unusedVariables false
set_option linter.unusedSimpArgs false
namespace Go.Proofs.Ytpiibdegmimckaa.Sh
open Go Go.RowKit Go.Proofs.Ev Go.Lib

def mayB (z : ZoneD) (op : Int) (c : CellD) : Bool :=
  if c.k = 0 ∨ z.cnt = z.nul ∨ c.k ≠ z.mn.k then false
  else if op = 1 then decide (z.mn.cmp c ≤ 0) && decide (z.mx.cmp c ≥ 0)
  else if op = 2 then (z.mn.cmp c != 0) || (z.mx.cmp c != 0)
  else if op = 3 ∨ op = 4 then soB op (z.mn.cmp c) else soB op (z.mx.cmp c)
theorem m24c {k : Nat} (o : Int) (h : AH) : eInv env (k + 1) (.func 24) #[] #[.int .i64 o] h = some (.bool (decide (o ≤ 0)), h) := by rw [F24_call]; exact m24 o h
theorem m25c {k : Nat} (o : Int) (h : AH) : eInv env (k + 1) (.func 25) #[] #[.int .i64 o] h = some (.bool (decide (o ≥ 0)), h) := by rw [F25_call]; exact m25 o h
theorem m26c {k : Nat} (o : Int) (h : AH) : eInv env (k + 1) (.func 26) #[] #[.int .i64 o] h = some (.bool (o != 0), h) := by rw [F26_call]; exact m26 o h
theorem f27c {k : Nat} (op o : Int) (h : AH) : Tl (eInv env (k + 5) (.func 27) #[] #[.int .i64 op, goInt o] h) fun r => r.1 = .bool (soB op o) ∧ Grow h r.2 := by rw [F27_call]; exact f27 op o h
theorem f14 {k : Nat} (z : ZoneD) (op : Int) (c : CellD) (h : AH) : Tl (F14 (eInv env (k + 20)) (k + 20) (zv z) (.int .i64 op) c.v h) fun r => r.1 = .bool (mayB z op c) ∧ Grow h r.2 := by
  unfold F14
  refine Tl.box (Sta.init h) rfl is28 fun b3 h1 S1 _ => ?_
  refine Tl.box S1 rfl is26 fun b5 h2 S2 _ => ?_
  have S2 : Sta h.n h h2 [cb b5 c, zb b3 z] := S2
  have kc := kind_at (i := 0) S2 rfl
  have rc := row_at (i := 0) S2 rfl
  obtain ⟨z1, z2, z3, z4, z5, z6, z7⟩ := z_at S2 1 rfl
  unfold mayB
  cases e0 : (c.k == 0)
  case true =>
    rw [if_pos (.inl (by simpa using e0))]
    repeat (with_reducible apply Tl.val; focus (simp only [bnd_some, bin_add, bin_sub, bin_mul, bin_lss, bin_leq, bin_gtr, bin_geq, bin_eql, bin_neq, un_not, un_neg, goInt, gd_tt, gd_ff, gd_tf, gd_ft, gd_sk, gd3_tt, gd3_ff, gd3_tf, gd3_ft, gd3_sk, Option.map_some, lt_some, pick_t, pick_f, Nat.zero_add, Bool.not_true, Bool.not_false, Bool.true_and, Bool.false_and, Bool.and_true, Bool.and_false, cond_true, cond_false, beq_self_eq_true, Int.reduceBEq, decide_true, decide_false, ld2, ld3, ld9, ld26, ld28, fa26_0, fa26_1, fa26_2, fa28_0, fa28_1, fa28_2, fa28_3, aggV, aggZ, eql26, neq26, eql28, bin_eql_bool u4, kc, e0] <;> with_reducible rfl))
    with_reducible refine Tl.brT ?_
    exact ⟨_, rfl, rfl, S2.done⟩
  have n0 : ¬ c.k = 0 := by simpa using e0
  cases e1 : (z.cnt == z.nul)
  case true =>
    rw [if_pos (.inr (.inl (by simpa using e1)))]
    repeat (with_reducible apply Tl.val; focus (simp only [bnd_some, bin_add, bin_sub, bin_mul, bin_lss, bin_leq, bin_gtr, bin_geq, bin_eql, bin_neq, un_not, un_neg, goInt, gd_tt, gd_ff, gd_tf, gd_ft, gd_sk, gd3_tt, gd3_ff, gd3_tf, gd3_ft, gd3_sk, Option.map_some, lt_some, pick_t, pick_f, Nat.zero_add, Bool.not_true, Bool.not_false, Bool.true_and, Bool.false_and, Bool.and_true, Bool.and_false, cond_true, cond_false, beq_self_eq_true, Int.reduceBEq, decide_true, decide_false, ld2, ld3, ld9, ld26, ld28, fa26_0, fa26_1, fa26_2, fa28_0, fa28_1, fa28_2, fa28_3, aggV, aggZ, eql26, neq26, eql28, bin_eql_bool u4, kc, e0, z2, z3, e1] <;> with_reducible rfl))
    with_reducible refine Tl.brT ?_
    exact ⟨_, rfl, rfl, S2.done⟩
  have n1 : ¬ z.cnt = z.nul := by simpa using e1
  cases e2 : (c.k != z.mn.k)
  case true =>
    rw [if_pos (.inr (.inr (by simpa using e2)))]
    repeat (with_reducible apply Tl.val; focus (simp only [bnd_some, bin_add, bin_sub, bin_mul, bin_lss, bin_leq, bin_gtr, bin_geq, bin_eql, bin_neq, un_not, un_neg, goInt, gd_tt, gd_ff, gd_tf, gd_ft, gd_sk, gd3_tt, gd3_ff, gd3_tf, gd3_ft, gd3_sk, Option.map_some, lt_some, pick_t, pick_f, Nat.zero_add, Bool.not_true, Bool.not_false, Bool.true_and, Bool.false_and, Bool.and_true, Bool.and_false, cond_true, cond_false, beq_self_eq_true, Int.reduceBEq, decide_true, decide_false, ld2, ld3, ld9, ld26, ld28, fa26_0, fa26_1, fa26_2, fa28_0, fa28_1, fa28_2, fa28_3, aggV, aggZ, eql26, neq26, eql28, bin_eql_bool u4, kc, e0, z2, z3, e1, z6, e2] <;> with_reducible rfl))
    with_reducible refine Tl.brT ?_
    exact ⟨_, rfl, rfl, S2.done⟩
  have n2 : ¬ c.k ≠ z.mn.k := by simpa using e2
  rw [if_neg (fun q => q.elim n0 fun q => q.elim n1 n2)]
  repeat (with_reducible apply Tl.val; focus (simp only [bnd_some, bin_add, bin_sub, bin_mul, bin_lss, bin_leq, bin_gtr, bin_geq, bin_eql, bin_neq, un_not, un_neg, goInt, gd_tt, gd_ff, gd_tf, gd_ft, gd_sk, gd3_tt, gd3_ff, gd3_tf, gd3_ft, gd3_sk, Option.map_some, lt_some, pick_t, pick_f, Nat.zero_add, Bool.not_true, Bool.not_false, Bool.true_and, Bool.false_and, Bool.and_true, Bool.and_false, cond_true, cond_false, beq_self_eq_true, Int.reduceBEq, decide_true, decide_false, ld2, ld3, ld9, ld26, ld28, fa26_0, fa26_1, fa26_2, fa28_0, fa28_1, fa28_2, fa28_3, aggV, aggZ, eql26, neq26, eql28, bin_eql_bool u4, kc, e0, z2, z3, e1, z6, e2] <;> with_reducible rfl))
  with_reducible refine Tl.brF ?_
  repeat (with_reducible apply Tl.val; focus (simp only [bnd_some, bin_add, bin_sub, bin_mul, bin_lss, bin_leq, bin_gtr, bin_geq, bin_eql, bin_neq, un_not, un_neg, goInt, gd_tt, gd_ff, gd_tf, gd_ft, gd_sk, gd3_tt, gd3_ff, gd3_tf, gd3_ft, gd3_sk, Option.map_some, lt_some, pick_t, pick_f, Nat.zero_add, Bool.not_true, Bool.not_false, Bool.true_and, Bool.false_and, Bool.and_true, Bool.and_false, cond_true, cond_false, beq_self_eq_true, Int.reduceBEq, decide_true, decide_false, ld2, ld3, ld9, ld26, ld28, fa26_0, fa26_1, fa26_2, fa28_0, fa28_1, fa28_2, fa28_3, aggV, aggZ, eql26, neq26, eql28, bin_eql_bool u4, z4, rc] <;> with_reducible rfl))
  with_reducible refine Tl.call S2 (f15c (k := k + 9) z.mn c h2) fun h3 S3 _ => ?_
  have rc3 := row_at (i := 0) S3 rfl
  obtain ⟨_, _, _, _, y5, _⟩ := z_at S3 1 rfl
  repeat (with_reducible apply Tl.val; focus (simp only [bnd_some, bin_add, bin_sub, bin_mul, bin_lss, bin_leq, bin_gtr, bin_geq, bin_eql, bin_neq, un_not, un_neg, goInt, gd_tt, gd_ff, gd_tf, gd_ft, gd_sk, gd3_tt, gd3_ff, gd3_tf, gd3_ft, gd3_sk, Option.map_some, lt_some, pick_t, pick_f, Nat.zero_add, Bool.not_true, Bool.not_false, Bool.true_and, Bool.false_and, Bool.and_true, Bool.and_false, cond_true, cond_false, beq_self_eq_true, Int.reduceBEq, decide_true, decide_false, ld2, ld3, ld9, ld26, ld28, fa26_0, fa26_1, fa26_2, fa28_0, fa28_1, fa28_2, fa28_3, aggV, aggZ, eql26, neq26, eql28, bin_eql_bool u4, y5, rc3] <;> with_reducible rfl))
  with_reducible refine Tl.call S3 (f15c (k := k + 9) z.mx c h3) fun h4 S4 _ => ?_
  with_reducible refine Tl.chk ?_ ?_
  · simp only [ld26, z5, y5, rc, rc3, Option.map_some, aggV, sameO_some, sameC, Bool.and_self, Bool.not_true, Bool.or_true, Bool.true_and, Bool.false_or]
  cases o1 : (op == 1)
  case true =>
    rw [if_pos (by simpa using o1)]
    repeat (with_reducible apply Tl.val; focus (simp only [bnd_some, bin_add, bin_sub, bin_mul, bin_lss, bin_leq, bin_gtr, bin_geq, bin_eql, bin_neq, un_not, un_neg, goInt, gd_tt, gd_ff, gd_tf, gd_ft, gd_sk, gd3_tt, gd3_ff, gd3_tf, gd3_ft, gd3_sk, Option.map_some, lt_some, pick_t, pick_f, Nat.zero_add, Bool.not_true, Bool.not_false, Bool.true_and, Bool.false_and, Bool.and_true, Bool.and_false, cond_true, cond_false, beq_self_eq_true, Int.reduceBEq, decide_true, decide_false, ld2, ld3, ld9, ld26, ld28, fa26_0, fa26_1, fa26_2, fa28_0, fa28_1, fa28_2, fa28_3, aggV, aggZ, eql26, neq26, eql28, bin_eql_bool u4, o1] <;> with_reducible rfl))
    with_reducible refine Tl.brT ?_
    cases q : decide (z.mn.cmp c ≤ 0)
    · repeat (with_reducible apply Tl.val; focus (simp only [bnd_some, bin_add, bin_sub, bin_mul, bin_lss, bin_leq, bin_gtr, bin_geq, bin_eql, bin_neq, un_not, un_neg, goInt, gd_tt, gd_ff, gd_tf, gd_ft, gd_sk, gd3_tt, gd3_ff, gd3_tf, gd3_ft, gd3_sk, Option.map_some, lt_some, pick_t, pick_f, Nat.zero_add, Bool.not_true, Bool.not_false, Bool.true_and, Bool.false_and, Bool.and_true, Bool.and_false, cond_true, cond_false, beq_self_eq_true, Int.reduceBEq, decide_true, decide_false, ld2, ld3, ld9, ld26, ld28, fa26_0, fa26_1, fa26_2, fa28_0, fa28_1, fa28_2, fa28_3, aggV, aggZ, eql26, neq26, eql28, bin_eql_bool u4, m24c, m25c, q] <;> with_reducible rfl))
      exact ⟨_, rfl, rfl, S4.done⟩
    · repeat (with_reducible apply Tl.val; focus (simp only [bnd_some, bin_add, bin_sub, bin_mul, bin_lss, bin_leq, bin_gtr, bin_geq, bin_eql, bin_neq, un_not, un_neg, goInt, gd_tt, gd_ff, gd_tf, gd_ft, gd_sk, gd3_tt, gd3_ff, gd3_tf, gd3_ft, gd3_sk, Option.map_some, lt_some, pick_t, pick_f, Nat.zero_add, Bool.not_true, Bool.not_false, Bool.true_and, Bool.false_and, Bool.and_true, Bool.and_false, cond_true, cond_false, beq_self_eq_true, Int.reduceBEq, decide_true, decide_false, ld2, ld3, ld9, ld26, ld28, fa26_0, fa26_1, fa26_2, fa28_0, fa28_1, fa28_2, fa28_3, aggV, aggZ, eql26, neq26, eql28, bin_eql_bool u4, m24c, m25c, q] <;> with_reducible rfl))
      exact ⟨_, rfl, by simp, S4.done⟩
  rw [if_neg (by simpa using o1)]
  cases o2 : (op == 2)
  case true =>
    rw [if_pos (by simpa using o2)]
    repeat (with_reducible apply Tl.val; focus (simp only [bnd_some, bin_add, bin_sub, bin_mul, bin_lss, bin_leq, bin_gtr, bin_geq, bin_eql, bin_neq, un_not, un_neg, goInt, gd_tt, gd_ff, gd_tf, gd_ft, gd_sk, gd3_tt, gd3_ff, gd3_tf, gd3_ft, gd3_sk, Option.map_some, lt_some, pick_t, pick_f, Nat.zero_add, Bool.not_true, Bool.not_false, Bool.true_and, Bool.false_and, Bool.and_true, Bool.and_false, cond_true, cond_false, beq_self_eq_true, Int.reduceBEq, decide_true, decide_false, ld2, ld3, ld9, ld26, ld28, fa26_0, fa26_1, fa26_2, fa28_0, fa28_1, fa28_2, fa28_3, aggV, aggZ, eql26, neq26, eql28, bin_eql_bool u4, o1] <;> with_reducible rfl))
    with_reducible refine Tl.brF ?_
    repeat (with_reducible apply Tl.val; focus (simp only [bnd_some, bin_add, bin_sub, bin_mul, bin_lss, bin_leq, bin_gtr, bin_geq, bin_eql, bin_neq, un_not, un_neg, goInt, gd_tt, gd_ff, gd_tf, gd_ft, gd_sk, gd3_tt, gd3_ff, gd3_tf, gd3_ft, gd3_sk, Option.map_some, lt_some, pick_t, pick_f, Nat.zero_add, Bool.not_true, Bool.not_false, Bool.true_and, Bool.false_and, Bool.and_true, Bool.and_false, cond_true, cond_false, beq_self_eq_true, Int.reduceBEq, decide_true, decide_false, ld2, ld3, ld9, ld26, ld28, fa26_0, fa26_1, fa26_2, fa28_0, fa28_1, fa28_2, fa28_3, aggV, aggZ, eql26, neq26, eql28, bin_eql_bool u4, o2] <;> with_reducible rfl))
    with_reducible refine Tl.brT ?_
    cases q : (z.mn.cmp c != 0)
    · repeat (with_reducible apply Tl.val; focus (simp only [bnd_some, bin_add, bin_sub, bin_mul, bin_lss, bin_leq, bin_gtr, bin_geq, bin_eql, bin_neq, un_not, un_neg, goInt, gd_tt, gd_ff, gd_tf, gd_ft, gd_sk, gd3_tt, gd3_ff, gd3_tf, gd3_ft, gd3_sk, Option.map_some, lt_some, pick_t, pick_f, Nat.zero_add, Bool.not_true, Bool.not_false, Bool.true_and, Bool.false_and, Bool.and_true, Bool.and_false, cond_true, cond_false, beq_self_eq_true, Int.reduceBEq, decide_true, decide_false, ld2, ld3, ld9, ld26, ld28, fa26_0, fa26_1, fa26_2, fa28_0, fa28_1, fa28_2, fa28_3, aggV, aggZ, eql26, neq26, eql28, bin_eql_bool u4, m26c, q] <;> with_reducible rfl))
      exact ⟨_, rfl, by simp, S4.done⟩
    · repeat (with_reducible apply Tl.val; focus (simp only [bnd_some, bin_add, bin_sub, bin_mul, bin_lss, bin_leq, bin_gtr, bin_geq, bin_eql, bin_neq, un_not, un_neg, goInt, gd_tt, gd_ff, gd_tf, gd_ft, gd_sk, gd3_tt, gd3_ff, gd3_tf, gd3_ft, gd3_sk, Option.map_some, lt_some, pick_t, pick_f, Nat.zero_add, Bool.not_true, Bool.not_false, Bool.true_and, Bool.false_and, Bool.and_true, Bool.and_false, cond_true, cond_false, beq_self_eq_true, Int.reduceBEq, decide_true, decide_false, ld2, ld3, ld9, ld26, ld28, fa26_0, fa26_1, fa26_2, fa28_0, fa28_1, fa28_2, fa28_3, aggV, aggZ, eql26, neq26, eql28, bin_eql_bool u4, m26c, q] <;> with_reducible rfl))
      exact ⟨_, rfl, by simp, S4.done⟩
  rw [if_neg (by simpa using o2)]
  repeat (with_reducible apply Tl.val; focus (simp only [bnd_some, bin_add, bin_sub, bin_mul, bin_lss, bin_leq, bin_gtr, bin_geq, bin_eql, bin_neq, un_not, un_neg, goInt, gd_tt, gd_ff, gd_tf, gd_ft, gd_sk, gd3_tt, gd3_ff, gd3_tf, gd3_ft, gd3_sk, Option.map_some, lt_some, pick_t, pick_f, Nat.zero_add, Bool.not_true, Bool.not_false, Bool.true_and, Bool.false_and, Bool.and_true, Bool.and_false, cond_true, cond_false, beq_self_eq_true, Int.reduceBEq, decide_true, decide_false, ld2, ld3, ld9, ld26, ld28, fa26_0, fa26_1, fa26_2, fa28_0, fa28_1, fa28_2, fa28_3, aggV, aggZ, eql26, neq26, eql28, bin_eql_bool u4, o1] <;> with_reducible rfl))
  with_reducible refine Tl.brF ?_
  repeat (with_reducible apply Tl.val; focus (simp only [bnd_some, bin_add, bin_sub, bin_mul, bin_lss, bin_leq, bin_gtr, bin_geq, bin_eql, bin_neq, un_not, un_neg, goInt, gd_tt, gd_ff, gd_tf, gd_ft, gd_sk, gd3_tt, gd3_ff, gd3_tf, gd3_ft, gd3_sk, Option.map_some, lt_some, pick_t, pick_f, Nat.zero_add, Bool.not_true, Bool.not_false, Bool.true_and, Bool.false_and, Bool.and_true, Bool.and_false, cond_true, cond_false, beq_self_eq_true, Int.reduceBEq, decide_true, decide_false, ld2, ld3, ld9, ld26, ld28, fa26_0, fa26_1, fa26_2, fa28_0, fa28_1, fa28_2, fa28_3, aggV, aggZ, eql26, neq26, eql28, bin_eql_bool u4, o2] <;> with_reducible rfl))
  with_reducible refine Tl.brF ?_
  cases o3 : (op == 3)
  case true =>
    rw [if_pos (.inl (by simpa using o3))]
    repeat (with_reducible apply Tl.val; focus (simp only [bnd_some, bin_add, bin_sub, bin_mul, bin_lss, bin_leq, bin_gtr, bin_geq, bin_eql, bin_neq, un_not, un_neg, goInt, gd_tt, gd_ff, gd_tf, gd_ft, gd_sk, gd3_tt, gd3_ff, gd3_tf, gd3_ft, gd3_sk, Option.map_some, lt_some, pick_t, pick_f, Nat.zero_add, Bool.not_true, Bool.not_false, Bool.true_and, Bool.false_and, Bool.and_true, Bool.and_false, cond_true, cond_false, beq_self_eq_true, Int.reduceBEq, decide_true, decide_false, ld2, ld3, ld9, ld26, ld28, fa26_0, fa26_1, fa26_2, fa28_0, fa28_1, fa28_2, fa28_3, aggV, aggZ, eql26, neq26, eql28, bin_eql_bool u4, o3] <;> with_reducible rfl))
    unfold F14_rlrrrrlrlrrr
    with_reducible refine Tl.brT ?_
    with_reducible refine Tl.brT ?_
    with_reducible refine Tl.call S4 (f27c (k := k + 15) op (z.mn.cmp c) h4) fun h5 S5 _ => ?_
    exact ⟨_, rfl, rfl, S5.done⟩
  cases o4 : (op == 4)
  case true =>
    rw [if_pos (.inr (by simpa using o4))]
    repeat (with_reducible apply Tl.val; focus (simp only [bnd_some, bin_add, bin_sub, bin_mul, bin_lss, bin_leq, bin_gtr, bin_geq, bin_eql, bin_neq, un_not, un_neg, goInt, gd_tt, gd_ff, gd_tf, gd_ft, gd_sk, gd3_tt, gd3_ff, gd3_tf, gd3_ft, gd3_sk, Option.map_some, lt_some, pick_t, pick_f, Nat.zero_add, Bool.not_true, Bool.not_false, Bool.true_and, Bool.false_and, Bool.and_true, Bool.and_false, cond_true, cond_false, beq_self_eq_true, Int.reduceBEq, decide_true, decide_false, ld2, ld3, ld9, ld26, ld28, fa26_0, fa26_1, fa26_2, fa28_0, fa28_1, fa28_2, fa28_3, aggV, aggZ, eql26, neq26, eql28, bin_eql_bool u4, o3] <;> with_reducible rfl))
    unfold F14_rlrrrrlrlrrr
    with_reducible refine Tl.brF ?_
    repeat (with_reducible apply Tl.val; focus (simp only [bnd_some, bin_add, bin_sub, bin_mul, bin_lss, bin_leq, bin_gtr, bin_geq, bin_eql, bin_neq, un_not, un_neg, goInt, gd_tt, gd_ff, gd_tf, gd_ft, gd_sk, gd3_tt, gd3_ff, gd3_tf, gd3_ft, gd3_sk, Option.map_some, lt_some, pick_t, pick_f, Nat.zero_add, Bool.not_true, Bool.not_false, Bool.true_and, Bool.false_and, Bool.and_true, Bool.and_false, cond_true, cond_false, beq_self_eq_true, Int.reduceBEq, decide_true, decide_false, ld2, ld3, ld9, ld26, ld28, fa26_0, fa26_1, fa26_2, fa28_0, fa28_1, fa28_2, fa28_3, aggV, aggZ, eql26, neq26, eql28, bin_eql_bool u4, o4] <;> with_reducible rfl))
    with_reducible refine Tl.brT ?_
    with_reducible refine Tl.call S4 (f27c (k := k + 15) op (z.mn.cmp c) h4) fun h5 S5 _ => ?_
    exact ⟨_, rfl, rfl, S5.done⟩
  rw [if_neg (fun q => q.elim (fun q => by simp [q] at o3) (fun q => by simp [q] at o4))]
  repeat (with_reducible apply Tl.val; focus (simp only [bnd_some, bin_add, bin_sub, bin_mul, bin_lss, bin_leq, bin_gtr, bin_geq, bin_eql, bin_neq, un_not, un_neg, goInt, gd_tt, gd_ff, gd_tf, gd_ft, gd_sk, gd3_tt, gd3_ff, gd3_tf, gd3_ft, gd3_sk, Option.map_some, lt_some, pick_t, pick_f, Nat.zero_add, Bool.not_true, Bool.not_false, Bool.true_and, Bool.false_and, Bool.and_true, Bool.and_false, cond_true, cond_false, beq_self_eq_true, Int.reduceBEq, decide_true, decide_false, ld2, ld3, ld9, ld26, ld28, fa26_0, fa26_1, fa26_2, fa28_0, fa28_1, fa28_2, fa28_3, aggV, aggZ, eql26, neq26, eql28, bin_eql_bool u4, o3] <;> with_reducible rfl))
  unfold F14_rlrrrrlrlrrr
  with_reducible refine Tl.brF ?_
  repeat (with_reducible apply Tl.val; focus (simp only [bnd_some, bin_add, bin_sub, bin_mul, bin_lss, bin_leq, bin_gtr, bin_geq, bin_eql, bin_neq, un_not, un_neg, goInt, gd_tt, gd_ff, gd_tf, gd_ft, gd_sk, gd3_tt, gd3_ff, gd3_tf, gd3_ft, gd3_sk, Option.map_some, lt_some, pick_t, pick_f, Nat.zero_add, Bool.not_true, Bool.not_false, Bool.true_and, Bool.false_and, Bool.and_true, Bool.and_false, cond_true, cond_false, beq_self_eq_true, Int.reduceBEq, decide_true, decide_false, ld2, ld3, ld9, ld26, ld28, fa26_0, fa26_1, fa26_2, fa28_0, fa28_1, fa28_2, fa28_3, aggV, aggZ, eql26, neq26, eql28, bin_eql_bool u4, o4] <;> with_reducible rfl))
  with_reducible refine Tl.brF ?_
  with_reducible refine Tl.call S4 (f27c (k := k + 15) op (z.mx.cmp c) h4) fun h5 S5 _ => ?_
  exact ⟨_, rfl, rfl, S5.done⟩
theorem f14c {k : Nat} (z : ZoneD) (op : Int) (c : CellD) (h : AH) : Tl (eInv env (k + 21) (.func 14) #[] #[zv z, .int .i64 op, c.v] h) fun r => r.1 = .bool (mayB z op c) ∧ Grow h r.2 := by
  rw [F14_call]; exact f14 z op c h
/-- 'Cell'. -/
def and1 (i : Int) : Int := IntKind.i64.wrap (BitVec.ofInt 64 i &&& BitVec.ofInt 64 1).toNat
def bare (c : CellD) : CellD := if c.k = 0 then c0 else if c.k = 1 then ⟨c.k, c.i, .empty⟩ else if c.k = 2 then ⟨c.k, and1 c.i, .empty⟩ else ⟨c.k, 0, c.s⟩
def cellE (c : CellD) : Int := if c.s.size > 65536 then 3 else if c.k = 0 ∨ c.k = 1 ∨ c.k = 2 ∨ c.k = 3 then (if bare c = c then 0 else 2) else 2
theorem bd26a (k : Int) : pBuild Try.prog 26 #[(0, .int .i64 k)] = some (CellD.v ⟨k, 0, .empty⟩) := by kernel_rfl
theorem f19 {k : Nat} (c : CellD) (h : AH) : Tl (F19 (eInv env k) k c.v h) fun r => r.1 = .int .i64 (cellE c) ∧ Grow h r.2 := by
  unfold F19
  refine Tl.box (Sta.init h) rfl is26 fun b1 h1 S1 _ => ?_
  have S1 : Sta h.n h h1 [cb b1 c] := S1
  have kc := kind_at (i := 0) S1 rfl
  have ic : h1.cell b1 1 = some (.int .i64 c.i) := (cell_of (S1.mem.at_ (i := 0) rfl)).trans rfl
  have sc : h1.cell b1 2 = some (.string c.s) := (cell_of (S1.mem.at_ (i := 0) rfl)).trans rfl
  unfold cellE
  cases e0 : decide (((c.s.size : Nat) : Int) > 65536)
  case true =>
    rw [if_pos (by simp at e0; omega)]
    repeat (with_reducible apply Tl.val; focus (simp only [bnd_some, bin_add, bin_sub, bin_mul, bin_lss, bin_leq, bin_gtr, bin_geq, bin_eql, bin_neq, un_not, un_neg, goInt, gd_tt, gd_ff, gd_tf, gd_ft, gd_sk, gd3_tt, gd3_ff, gd3_tf, gd3_ft, gd3_sk, Option.map_some, lt_some, pick_t, pick_f, Nat.zero_add, Bool.not_true, Bool.not_false, Bool.true_and, Bool.false_and, Bool.and_true, Bool.and_false, cond_true, cond_false, beq_self_eq_true, Int.reduceBEq, decide_true, decide_false, ld2, ld3, ld9, ld26, ld28, fa26_0, fa26_1, fa26_2, fa28_0, fa28_1, fa28_2, fa28_3, aggV, aggZ, eql26, neq26, eql28, bin_eql_bool u4, sc, len_string u9, e0] <;> with_reducible rfl))
    with_reducible refine Tl.brT ?_
    exact ⟨_, rfl, rfl, S1.done⟩
  rw [if_neg (by simp at e0; omega)]
  repeat (with_reducible apply Tl.val; focus (simp only [bnd_some, bin_add, bin_sub, bin_mul, bin_lss, bin_leq, bin_gtr, bin_geq, bin_eql, bin_neq, un_not, un_neg, goInt, gd_tt, gd_ff, gd_tf, gd_ft, gd_sk, gd3_tt, gd3_ff, gd3_tf, gd3_ft, gd3_sk, Option.map_some, lt_some, pick_t, pick_f, Nat.zero_add, Bool.not_true, Bool.not_false, Bool.true_and, Bool.false_and, Bool.and_true, Bool.and_false, cond_true, cond_false, beq_self_eq_true, Int.reduceBEq, decide_true, decide_false, ld2, ld3, ld9, ld26, ld28, fa26_0, fa26_1, fa26_2, fa28_0, fa28_1, fa28_2, fa28_3, aggV, aggZ, eql26, neq26, eql28, bin_eql_bool u4, sc, len_string u9, e0] <;> with_reducible rfl))
  with_reducible refine Tl.brF ?_
  repeat (with_reducible apply Tl.val; focus (simp only [bnd_some, bin_add, bin_sub, bin_mul, bin_lss, bin_leq, bin_gtr, bin_geq, bin_eql, bin_neq, un_not, un_neg, goInt, gd_tt, gd_ff, gd_tf, gd_ft, gd_sk, gd3_tt, gd3_ff, gd3_tf, gd3_ft, gd3_sk, Option.map_some, lt_some, pick_t, pick_f, Nat.zero_add, Bool.not_true, Bool.not_false, Bool.true_and, Bool.false_and, Bool.and_true, Bool.and_false, cond_true, cond_false, beq_self_eq_true, Int.reduceBEq, decide_true, decide_false, ld2, ld3, ld9, ld26, ld28, fa26_0, fa26_1, fa26_2, fa28_0, fa28_1, fa28_2, fa28_3, aggV, aggZ, eql26, neq26, eql28, bin_eql_bool u4, kc, bd26a] <;> with_reducible rfl))
  refine Tl.alloc S1 ze26 rfl fun b3 h2 S2 _ => ?_
  refine Tl.store S2 0 rfl sz26 rfl rfl (of_decide_eq_true rfl) fun h3 S3 => ?_
  have S3 : Sta h.n h h3 [cb b3 ⟨c.k, 0, .empty⟩, cb b1 c] := S3
  have kc3 := kind_at (i := 1) S3 rfl
  have ic3 : h3.cell b1 1 = some (.int .i64 c.i) := (cell_of (S3.mem.at_ (i := 1) rfl)).trans rfl
  have sc3 : h3.cell b1 2 = some (.string c.s) := (cell_of (S3.mem.at_ (i := 1) rfl)).trans rfl
  have fin : ∀ (d : CellD) (h4 : AH) (x y : Value), Sta h.n h h4 [cb b3 d, cb b1 c] → bare c = d → (c.k = 0 ∨ c.k = 1 ∨ c.k = 2 ∨ c.k = 3) → Tl (Ev.bnd (pLoad Try.prog 26 (.pointer (some ⟨b3, 0, none⟩)) h4) fun x31 => Ev.bnd (pLoad Try.prog 26 (.pointer (some ⟨b1, 0, none⟩)) h4) fun x32 =>
      Ev.bnd (pBin Try.prog Go.BinOp.neq 26 (Go.Operand.tmp 31) (Go.Operand.tmp 32) x31 x32) fun x33 => brV x33 (some ((Go.Value.int Go.IntKind.i64 2), h4)) (some ((Go.Value.int Go.IntKind.i64 0), h4)))
      fun r => r.1 = .int .i64 (if c.k = 0 ∨ c.k = 1 ∨ c.k = 2 ∨ c.k = 3 then (if bare c = c then 0 else 2) else 2) ∧ Grow h r.2 := by
    intro d h4 x y S4 hd hk
    rw [if_pos hk, hd]
    have r3 := row_at (i := 0) S4 rfl
    have r1 := row_at (i := 1) S4 rfl
    by_cases q : d = c
    · have q' : (decide (d = c)) = true := by simpa using q
      rw [if_pos q]
      repeat (with_reducible apply Tl.val; focus (simp only [bnd_some, bin_add, bin_sub, bin_mul, bin_lss, bin_leq, bin_gtr, bin_geq, bin_eql, bin_neq, un_not, un_neg, goInt, gd_tt, gd_ff, gd_tf, gd_ft, gd_sk, gd3_tt, gd3_ff, gd3_tf, gd3_ft, gd3_sk, Option.map_some, lt_some, pick_t, pick_f, Nat.zero_add, Bool.not_true, Bool.not_false, Bool.true_and, Bool.false_and, Bool.and_true, Bool.and_false, cond_true, cond_false, beq_self_eq_true, Int.reduceBEq, decide_true, decide_false, ld2, ld3, ld9, ld26, ld28, fa26_0, fa26_1, fa26_2, fa28_0, fa28_1, fa28_2, fa28_3, aggV, aggZ, eql26, neq26, eql28, bin_eql_bool u4, r3, r1, q'] <;> with_reducible rfl))
      with_reducible refine Tl.brF ?_
      exact ⟨_, rfl, rfl, S4.done⟩
    · have q' : (decide (d = c)) = false := by simpa using q
      rw [if_neg q]
      repeat (with_reducible apply Tl.val; focus (simp only [bnd_some, bin_add, bin_sub, bin_mul, bin_lss, bin_leq, bin_gtr, bin_geq, bin_eql, bin_neq, un_not, un_neg, goInt, gd_tt, gd_ff, gd_tf, gd_ft, gd_sk, gd3_tt, gd3_ff, gd3_tf, gd3_ft, gd3_sk, Option.map_some, lt_some, pick_t, pick_f, Nat.zero_add, Bool.not_true, Bool.not_false, Bool.true_and, Bool.false_and, Bool.and_true, Bool.and_false, cond_true, cond_false, beq_self_eq_true, Int.reduceBEq, decide_true, decide_false, ld2, ld3, ld9, ld26, ld28, fa26_0, fa26_1, fa26_2, fa28_0, fa28_1, fa28_2, fa28_3, aggV, aggZ, eql26, neq26, eql28, bin_eql_bool u4, r3, r1, q'] <;> with_reducible rfl))
      with_reducible refine Tl.brT ?_
      exact ⟨_, rfl, rfl, S4.done⟩
  repeat (with_reducible apply Tl.val; focus (simp only [bnd_some, bin_add, bin_sub, bin_mul, bin_lss, bin_leq, bin_gtr, bin_geq, bin_eql, bin_neq, un_not, un_neg, goInt, gd_tt, gd_ff, gd_tf, gd_ft, gd_sk, gd3_tt, gd3_ff, gd3_tf, gd3_ft, gd3_sk, Option.map_some, lt_some, pick_t, pick_f, Nat.zero_add, Bool.not_true, Bool.not_false, Bool.true_and, Bool.false_and, Bool.and_true, Bool.and_false, cond_true, cond_false, beq_self_eq_true, Int.reduceBEq, decide_true, decide_false, ld2, ld3, ld9, ld26, ld28, fa26_0, fa26_1, fa26_2, fa28_0, fa28_1, fa28_2, fa28_3, aggV, aggZ, eql26, neq26, eql28, bin_eql_bool u4, kc3] <;> with_reducible rfl))
  unfold F19_rlrrr
  cases q0 : (c.k == 0)
  case true =>
    have p0 : c.k = 0 := by simpa using q0
    repeat (with_reducible apply Tl.val; focus (simp only [bnd_some, bin_add, bin_sub, bin_mul, bin_lss, bin_leq, bin_gtr, bin_geq, bin_eql, bin_neq, un_not, un_neg, goInt, gd_tt, gd_ff, gd_tf, gd_ft, gd_sk, gd3_tt, gd3_ff, gd3_tf, gd3_ft, gd3_sk, Option.map_some, lt_some, pick_t, pick_f, Nat.zero_add, Bool.not_true, Bool.not_false, Bool.true_and, Bool.false_and, Bool.and_true, Bool.and_false, cond_true, cond_false, beq_self_eq_true, Int.reduceBEq, decide_true, decide_false, ld2, ld3, ld9, ld26, ld28, fa26_0, fa26_1, fa26_2, fa28_0, fa28_1, fa28_2, fa28_3, aggV, aggZ, eql26, neq26, eql28, bin_eql_bool u4, q0] <;> with_reducible rfl))
    with_reducible refine Tl.brT ?_
    exact fin ⟨c.k, 0, .empty⟩ h3 unk unk S3 (by unfold bare; rw [if_pos p0, p0]; rfl) (.inl p0)
  have n0 : ¬ c.k = 0 := by simpa using q0
  repeat (with_reducible apply Tl.val; focus (simp only [bnd_some, bin_add, bin_sub, bin_mul, bin_lss, bin_leq, bin_gtr, bin_geq, bin_eql, bin_neq, un_not, un_neg, goInt, gd_tt, gd_ff, gd_tf, gd_ft, gd_sk, gd3_tt, gd3_ff, gd3_tf, gd3_ft, gd3_sk, Option.map_some, lt_some, pick_t, pick_f, Nat.zero_add, Bool.not_true, Bool.not_false, Bool.true_and, Bool.false_and, Bool.and_true, Bool.and_false, cond_true, cond_false, beq_self_eq_true, Int.reduceBEq, decide_true, decide_false, ld2, ld3, ld9, ld26, ld28, fa26_0, fa26_1, fa26_2, fa28_0, fa28_1, fa28_2, fa28_3, aggV, aggZ, eql26, neq26, eql28, bin_eql_bool u4, q0] <;> with_reducible rfl))
  with_reducible refine Tl.brF ?_
  cases q1 : (c.k == 1)
  case true =>
    have p1 : c.k = 1 := by simpa using q1
    repeat (with_reducible apply Tl.val; focus (simp only [bnd_some, bin_add, bin_sub, bin_mul, bin_lss, bin_leq, bin_gtr, bin_geq, bin_eql, bin_neq, un_not, un_neg, goInt, gd_tt, gd_ff, gd_tf, gd_ft, gd_sk, gd3_tt, gd3_ff, gd3_tf, gd3_ft, gd3_sk, Option.map_some, lt_some, pick_t, pick_f, Nat.zero_add, Bool.not_true, Bool.not_false, Bool.true_and, Bool.false_and, Bool.and_true, Bool.and_false, cond_true, cond_false, beq_self_eq_true, Int.reduceBEq, decide_true, decide_false, ld2, ld3, ld9, ld26, ld28, fa26_0, fa26_1, fa26_2, fa28_0, fa28_1, fa28_2, fa28_3, aggV, aggZ, eql26, neq26, eql28, bin_eql_bool u4, q1] <;> with_reducible rfl))
    with_reducible refine Tl.brT ?_
    repeat (with_reducible apply Tl.val; focus (simp only [bnd_some, bin_add, bin_sub, bin_mul, bin_lss, bin_leq, bin_gtr, bin_geq, bin_eql, bin_neq, un_not, un_neg, goInt, gd_tt, gd_ff, gd_tf, gd_ft, gd_sk, gd3_tt, gd3_ff, gd3_tf, gd3_ft, gd3_sk, Option.map_some, lt_some, pick_t, pick_f, Nat.zero_add, Bool.not_true, Bool.not_false, Bool.true_and, Bool.false_and, Bool.and_true, Bool.and_false, cond_true, cond_false, beq_self_eq_true, Int.reduceBEq, decide_true, decide_false, ld2, ld3, ld9, ld26, ld28, fa26_0, fa26_1, fa26_2, fa28_0, fa28_1, fa28_2, fa28_3, aggV, aggZ, eql26, neq26, eql28, bin_eql_bool u4, ic3] <;> with_reducible rfl))
    refine Tl.store S3 0 rfl sz2 rfl rfl (of_decide_eq_true rfl) fun h4 S4 => ?_
    exact fin ⟨c.k, c.i, .empty⟩ h4 unk unk S4 (by unfold bare; rw [if_neg n0, if_pos p1]) (.inr (.inl p1))
  have n1 : ¬ c.k = 1 := by simpa using q1
  repeat (with_reducible apply Tl.val; focus (simp only [bnd_some, bin_add, bin_sub, bin_mul, bin_lss, bin_leq, bin_gtr, bin_geq, bin_eql, bin_neq, un_not, un_neg, goInt, gd_tt, gd_ff, gd_tf, gd_ft, gd_sk, gd3_tt, gd3_ff, gd3_tf, gd3_ft, gd3_sk, Option.map_some, lt_some, pick_t, pick_f, Nat.zero_add, Bool.not_true, Bool.not_false, Bool.true_and, Bool.false_and, Bool.and_true, Bool.and_false, cond_true, cond_false, beq_self_eq_true, Int.reduceBEq, decide_true, decide_false, ld2, ld3, ld9, ld26, ld28, fa26_0, fa26_1, fa26_2, fa28_0, fa28_1, fa28_2, fa28_3, aggV, aggZ, eql26, neq26, eql28, bin_eql_bool u4, q1] <;> with_reducible rfl))
  with_reducible refine Tl.brF ?_
  cases q2 : (c.k == 2)
  case true =>
    have p2 : c.k = 2 := by simpa using q2
    repeat (with_reducible apply Tl.val; focus (simp only [bnd_some, bin_add, bin_sub, bin_mul, bin_lss, bin_leq, bin_gtr, bin_geq, bin_eql, bin_neq, un_not, un_neg, goInt, gd_tt, gd_ff, gd_tf, gd_ft, gd_sk, gd3_tt, gd3_ff, gd3_tf, gd3_ft, gd3_sk, Option.map_some, lt_some, pick_t, pick_f, Nat.zero_add, Bool.not_true, Bool.not_false, Bool.true_and, Bool.false_and, Bool.and_true, Bool.and_false, cond_true, cond_false, beq_self_eq_true, Int.reduceBEq, decide_true, decide_false, ld2, ld3, ld9, ld26, ld28, fa26_0, fa26_1, fa26_2, fa28_0, fa28_1, fa28_2, fa28_3, aggV, aggZ, eql26, neq26, eql28, bin_eql_bool u4, q2] <;> with_reducible rfl))
    with_reducible refine Tl.brT ?_
    repeat (with_reducible apply Tl.val; focus (simp only [bnd_some, bin_add, bin_sub, bin_mul, bin_lss, bin_leq, bin_gtr, bin_geq, bin_eql, bin_neq, un_not, un_neg, goInt, gd_tt, gd_ff, gd_tf, gd_ft, gd_sk, gd3_tt, gd3_ff, gd3_tf, gd3_ft, gd3_sk, Option.map_some, lt_some, pick_t, pick_f, Nat.zero_add, Bool.not_true, Bool.not_false, Bool.true_and, Bool.false_and, Bool.and_true, Bool.and_false, cond_true, cond_false, beq_self_eq_true, Int.reduceBEq, decide_true, decide_false, ld2, ld3, ld9, ld26, ld28, fa26_0, fa26_1, fa26_2, fa28_0, fa28_1, fa28_2, fa28_3, aggV, aggZ, eql26, neq26, eql28, bin_eql_bool u4, ic3, bin_and] <;> with_reducible rfl))
    refine Tl.store S3 0 rfl sz2 rfl rfl (of_decide_eq_true rfl) fun h4 S4 => ?_
    exact fin ⟨c.k, and1 c.i, .empty⟩ h4 unk unk S4 (by unfold bare; rw [if_neg n0, if_neg n1, if_pos p2]) (.inr (.inr (.inl p2)))
  have n2 : ¬ c.k = 2 := by simpa using q2
  repeat (with_reducible apply Tl.val; focus (simp only [bnd_some, bin_add, bin_sub, bin_mul, bin_lss, bin_leq, bin_gtr, bin_geq, bin_eql, bin_neq, un_not, un_neg, goInt, gd_tt, gd_ff, gd_tf, gd_ft, gd_sk, gd3_tt, gd3_ff, gd3_tf, gd3_ft, gd3_sk, Option.map_some, lt_some, pick_t, pick_f, Nat.zero_add, Bool.not_true, Bool.not_false, Bool.true_and, Bool.false_and, Bool.and_true, Bool.and_false, cond_true, cond_false, beq_self_eq_true, Int.reduceBEq, decide_true, decide_false, ld2, ld3, ld9, ld26, ld28, fa26_0, fa26_1, fa26_2, fa28_0, fa28_1, fa28_2, fa28_3, aggV, aggZ, eql26, neq26, eql28, bin_eql_bool u4, q2] <;> with_reducible rfl))
  with_reducible refine Tl.brF ?_
  cases q3 : (c.k == 3)
  case true =>
    have p3 : c.k = 3 := by simpa using q3
    repeat (with_reducible apply Tl.val; focus (simp only [bnd_some, bin_add, bin_sub, bin_mul, bin_lss, bin_leq, bin_gtr, bin_geq, bin_eql, bin_neq, un_not, un_neg, goInt, gd_tt, gd_ff, gd_tf, gd_ft, gd_sk, gd3_tt, gd3_ff, gd3_tf, gd3_ft, gd3_sk, Option.map_some, lt_some, pick_t, pick_f, Nat.zero_add, Bool.not_true, Bool.not_false, Bool.true_and, Bool.false_and, Bool.and_true, Bool.and_false, cond_true, cond_false, beq_self_eq_true, Int.reduceBEq, decide_true, decide_false, ld2, ld3, ld9, ld26, ld28, fa26_0, fa26_1, fa26_2, fa28_0, fa28_1, fa28_2, fa28_3, aggV, aggZ, eql26, neq26, eql28, bin_eql_bool u4, q3] <;> with_reducible rfl))
    with_reducible refine Tl.brT ?_
    repeat (with_reducible apply Tl.val; focus (simp only [bnd_some, bin_add, bin_sub, bin_mul, bin_lss, bin_leq, bin_gtr, bin_geq, bin_eql, bin_neq, un_not, un_neg, goInt, gd_tt, gd_ff, gd_tf, gd_ft, gd_sk, gd3_tt, gd3_ff, gd3_tf, gd3_ft, gd3_sk, Option.map_some, lt_some, pick_t, pick_f, Nat.zero_add, Bool.not_true, Bool.not_false, Bool.true_and, Bool.false_and, Bool.and_true, Bool.and_false, cond_true, cond_false, beq_self_eq_true, Int.reduceBEq, decide_true, decide_false, ld2, ld3, ld9, ld26, ld28, fa26_0, fa26_1, fa26_2, fa28_0, fa28_1, fa28_2, fa28_3, aggV, aggZ, eql26, neq26, eql28, bin_eql_bool u4, sc3] <;> with_reducible rfl))
    refine Tl.store S3 0 rfl sz9 rfl rfl (of_decide_eq_true rfl) fun h4 S4 => ?_
    exact fin ⟨c.k, 0, c.s⟩ h4 unk unk S4 (by unfold bare; rw [if_neg n0, if_neg n1, if_neg n2]) (.inr (.inr (.inr p3)))
  have n3 : ¬ c.k = 3 := by simpa using q3
  rw [if_neg (fun q => q.elim n0 fun q => q.elim n1 fun q => q.elim n2 n3)]
  repeat (with_reducible apply Tl.val; focus (simp only [bnd_some, bin_add, bin_sub, bin_mul, bin_lss, bin_leq, bin_gtr, bin_geq, bin_eql, bin_neq, un_not, un_neg, goInt, gd_tt, gd_ff, gd_tf, gd_ft, gd_sk, gd3_tt, gd3_ff, gd3_tf, gd3_ft, gd3_sk, Option.map_some, lt_some, pick_t, pick_f, Nat.zero_add, Bool.not_true, Bool.not_false, Bool.true_and, Bool.false_and, Bool.and_true, Bool.and_false, cond_true, cond_false, beq_self_eq_true, Int.reduceBEq, decide_true, decide_false, ld2, ld3, ld9, ld26, ld28, fa26_0, fa26_1, fa26_2, fa28_0, fa28_1, fa28_2, fa28_3, aggV, aggZ, eql26, neq26, eql28, bin_eql_bool u4, q3] <;> with_reducible rfl))
  with_reducible refine Tl.brF ?_
  exact ⟨_, rfl, rfl, S3.done⟩
theorem f19c {k : Nat} (c : CellD) (h : AH) : Tl (eInv env (k + 1) (.func 19) #[] #[c.v] h) fun r => r.1 = .int .i64 (cellE c) ∧ Grow h r.2 := by
  rw [F19_call]; exact f19 c h
end Go.Proofs.Ytpiibdegmimckaa.Sh
