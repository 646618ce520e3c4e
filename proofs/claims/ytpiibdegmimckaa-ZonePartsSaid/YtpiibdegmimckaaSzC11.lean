/- 'ZoneMay' comes to true. -/
import Derived.Test.YtpiibdegmimckaaSzC10
set_option linter.unusedVariables false
set_option linter.unusedSimpArgs false
namespace Go.Proofs.Ytpiibdegmimckaa.Sh
open Go Go.RowKit Go.Proofs.Ev Go.Lib

theorem bd26e : pBuild Try.prog 26 #[] = some c0.v := by kernel_rfl
theorem f19g {k : Nat} (c : CellD) (h : AH) : Tl (eInv env (k + 1) (.func 19) #[] #[c.v] h) fun r => r.1 = goInt (cellE c) ∧ Grow h r.2 := f19c c h
/-- 'Check', where nothing is amiss. -/
theorem f21 {k : Nat} (z : ZoneD) (kind : Int) (h : AH) (h1 : 1 ≤ kind) (h3 : kind ≤ 3) (p0 : 0 ≤ z.nul) (p1 : z.nul ≤ z.cnt)
    (hz : (z.nul = z.cnt ∧ z.mn = c0 ∧ z.mx = c0) ∨ (z.nul ≠ z.cnt ∧ z.mn.k = kind ∧ z.mx.k = kind ∧ cellE z.mn = 0 ∧ cellE z.mx = 0 ∧ z.mn.cmp z.mx ≤ 0)) :
    Tl (F21 (eInv env (k + 12)) (k + 12) (zv z) (.int .i64 kind) h) fun r => r.1 = .int .i64 0 ∧ Grow h r.2 := by
  unfold F21
  refine Tl.box (Sta.init h) rfl is28 fun b2 h1 S1 _ => ?_
  have S1 : Sta h.n h h1 [zb b2 z] := S1
  obtain ⟨z1, z2, z3, z4, z5, z6, z7⟩ := z_at S1 0 rfl
  have q1 : decide (kind < 1) = false := by simp; omega
  have q2 : decide (kind > 3) = false := by simp; omega
  have q3 : decide (z.cnt < 0) = false := by simp; omega
  have q4 : decide (z.nul < 0) = false := by simp; omega
  have q5 : decide (z.nul > z.cnt) = false := by simp; omega
  repeat (with_reducible apply Tl.val; focus (simp only [bnd_some, bin_add, bin_sub, bin_mul, bin_lss, bin_leq, bin_gtr, bin_geq, bin_eql, bin_neq, un_not, un_neg, goInt, gd_tt, gd_ff, gd_tf, gd_ft, gd_sk, gd3_tt, gd3_ff, gd3_tf, gd3_ft, gd3_sk, Option.map_some, lt_some, pick_t, pick_f, Nat.zero_add, Bool.not_true, Bool.not_false, Bool.true_and, Bool.false_and, Bool.and_true, Bool.and_false, cond_true, cond_false, beq_self_eq_true, Int.reduceBEq, decide_true, decide_false, ld2, ld3, ld9, ld26, ld28, fa26_0, fa26_1, fa26_2, fa28_0, fa28_1, fa28_2, fa28_3, aggV, aggZ, eql26, neq26, eql28, bin_eql_bool u4, z2, z3, q1, q2, q3, q4, q5] <;> with_reducible rfl))
  with_reducible refine Tl.brF ?_
  rcases hz with ⟨e1, e2, e3⟩ | ⟨e1, e2, e3, e4, e5, e6⟩
  · have r2 : decide (z.mn = c0) = true := by simp [e2]
    have r3 : decide (z.mx = c0) = true := by simp [e3]
    have r4 : (z.nul == z.cnt) = true := by simp [e1]
    repeat (with_reducible apply Tl.val; focus (simp only [bnd_some, bin_add, bin_sub, bin_mul, bin_lss, bin_leq, bin_gtr, bin_geq, bin_eql, bin_neq, un_not, un_neg, goInt, gd_tt, gd_ff, gd_tf, gd_ft, gd_sk, gd3_tt, gd3_ff, gd3_tf, gd3_ft, gd3_sk, Option.map_some, lt_some, pick_t, pick_f, Nat.zero_add, Bool.not_true, Bool.not_false, Bool.true_and, Bool.false_and, Bool.and_true, Bool.and_false, cond_true, cond_false, beq_self_eq_true, Int.reduceBEq, decide_true, decide_false, ld2, ld3, ld9, ld26, ld28, fa26_0, fa26_1, fa26_2, fa28_0, fa28_1, fa28_2, fa28_3, aggV, aggZ, eql26, neq26, eql28, bin_eql_bool u4, z2, z3, z4, z5, bd26e, r2, r3, r4] <;> with_reducible rfl))
    with_reducible refine Tl.brT ?_
    exact ⟨_, rfl, rfl, S1.done⟩
  · have r2 : decide (z.mn = c0) = false := by
      simp only [decide_eq_false_iff_not]
      intro q
      rw [q] at e2
      simp [c0] at e2
      omega
    have r4 : (z.nul == z.cnt) = false := by simpa using e1
    have r5 : (z.mn.k != kind) = false := by simpa using e2
    have r6 : (z.mx.k != kind) = false := by simpa using e3
    have r7 : (cellE z.mn != 0) = false := by simpa using e4
    have r8 : (cellE z.mx != 0) = false := by simpa using e5
    have r9 : decide (z.mn.cmp z.mx > 0) = false := by simp; omega
    repeat (with_reducible apply Tl.val; focus (simp only [bnd_some, bin_add, bin_sub, bin_mul, bin_lss, bin_leq, bin_gtr, bin_geq, bin_eql, bin_neq, un_not, un_neg, goInt, gd_tt, gd_ff, gd_tf, gd_ft, gd_sk, gd3_tt, gd3_ff, gd3_tf, gd3_ft, gd3_sk, Option.map_some, lt_some, pick_t, pick_f, Nat.zero_add, Bool.not_true, Bool.not_false, Bool.true_and, Bool.false_and, Bool.and_true, Bool.and_false, cond_true, cond_false, beq_self_eq_true, Int.reduceBEq, decide_true, decide_false, ld2, ld3, ld9, ld26, ld28, fa26_0, fa26_1, fa26_2, fa28_0, fa28_1, fa28_2, fa28_3, aggV, aggZ, eql26, neq26, eql28, bin_eql_bool u4, z2, z3, z4, z5, bd26e, r2, r4] <;> with_reducible rfl))
    with_reducible refine Tl.brF ?_
    repeat (with_reducible apply Tl.val; focus (simp only [bnd_some, bin_add, bin_sub, bin_mul, bin_lss, bin_leq, bin_gtr, bin_geq, bin_eql, bin_neq, un_not, un_neg, goInt, gd_tt, gd_ff, gd_tf, gd_ft, gd_sk, gd3_tt, gd3_ff, gd3_tf, gd3_ft, gd3_sk, Option.map_some, lt_some, pick_t, pick_f, Nat.zero_add, Bool.not_true, Bool.not_false, Bool.true_and, Bool.false_and, Bool.and_true, Bool.and_false, cond_true, cond_false, beq_self_eq_true, Int.reduceBEq, decide_true, decide_false, ld2, ld3, ld9, ld26, ld28, fa26_0, fa26_1, fa26_2, fa28_0, fa28_1, fa28_2, fa28_3, aggV, aggZ, eql26, neq26, eql28, bin_eql_bool u4, z2, z3, z4, z5, z6, z7, r4, r5, r6] <;> with_reducible rfl))
    with_reducible refine Tl.gd_on ?_
    with_reducible refine Tl.call S1 (f19g (k := k + 11) z.mn h1) fun h2 S2 _ => ?_
    obtain ⟨_, _, _, y4, y5, _⟩ := z_at S2 0 rfl
    repeat (with_reducible apply Tl.val; focus (simp only [bnd_some, bin_add, bin_sub, bin_mul, bin_lss, bin_leq, bin_gtr, bin_geq, bin_eql, bin_neq, un_not, un_neg, goInt, gd_tt, gd_ff, gd_tf, gd_ft, gd_sk, gd3_tt, gd3_ff, gd3_tf, gd3_ft, gd3_sk, Option.map_some, lt_some, pick_t, pick_f, Nat.zero_add, Bool.not_true, Bool.not_false, Bool.true_and, Bool.false_and, Bool.and_true, Bool.and_false, cond_true, cond_false, beq_self_eq_true, Int.reduceBEq, decide_true, decide_false, ld2, ld3, ld9, ld26, ld28, fa26_0, fa26_1, fa26_2, fa28_0, fa28_1, fa28_2, fa28_3, aggV, aggZ, eql26, neq26, eql28, bin_eql_bool u4, y4, y5, r7] <;> with_reducible rfl))
    with_reducible refine Tl.gd_on ?_
    with_reducible refine Tl.call S2 (f19g (k := k + 11) z.mx h2) fun h3 S3 _ => ?_
    obtain ⟨_, _, _, x4, x5, _⟩ := z_at S3 0 rfl
    repeat (with_reducible apply Tl.val; focus (simp only [bnd_some, bin_add, bin_sub, bin_mul, bin_lss, bin_leq, bin_gtr, bin_geq, bin_eql, bin_neq, un_not, un_neg, goInt, gd_tt, gd_ff, gd_tf, gd_ft, gd_sk, gd3_tt, gd3_ff, gd3_tf, gd3_ft, gd3_sk, Option.map_some, lt_some, pick_t, pick_f, Nat.zero_add, Bool.not_true, Bool.not_false, Bool.true_and, Bool.false_and, Bool.and_true, Bool.and_false, cond_true, cond_false, beq_self_eq_true, Int.reduceBEq, decide_true, decide_false, ld2, ld3, ld9, ld26, ld28, fa26_0, fa26_1, fa26_2, fa28_0, fa28_1, fa28_2, fa28_3, aggV, aggZ, eql26, neq26, eql28, bin_eql_bool u4, x4, x5, r8] <;> with_reducible rfl))
    with_reducible refine Tl.gd_on ?_
    with_reducible refine Tl.call S3 (f15c (k := k + 1) z.mn z.mx h3) fun h4 S4 _ => ?_
    repeat (with_reducible apply Tl.val; focus (simp only [bnd_some, bin_add, bin_sub, bin_mul, bin_lss, bin_leq, bin_gtr, bin_geq, bin_eql, bin_neq, un_not, un_neg, goInt, gd_tt, gd_ff, gd_tf, gd_ft, gd_sk, gd3_tt, gd3_ff, gd3_tf, gd3_ft, gd3_sk, Option.map_some, lt_some, pick_t, pick_f, Nat.zero_add, Bool.not_true, Bool.not_false, Bool.true_and, Bool.false_and, Bool.and_true, Bool.and_false, cond_true, cond_false, beq_self_eq_true, Int.reduceBEq, decide_true, decide_false, ld2, ld3, ld9, ld26, ld28, fa26_0, fa26_1, fa26_2, fa28_0, fa28_1, fa28_2, fa28_3, aggV, aggZ, eql26, neq26, eql28, bin_eql_bool u4, r9] <;> with_reducible rfl))
    with_reducible refine Tl.brF ?_
    exact ⟨_, rfl, rfl, S4.done⟩
def goodC (kind : Int) (x : CellD) : Prop := (x.k = 0 ∨ x.k = kind) ∧ cellE x = 0
theorem f7_loop1 {β : Type} {k : Nat} {Q : β → Prop} {h0 : AH} {b7 : Nat} {v : Value} {l : List CellD} {c : CellD} {kind op : Int} (S : Cells h0 v l) (hl : l.length ≤ 60) {ke0 : Value → Value → Value → Value → Value → Value → AH → Option β} {kr : Value → AH → Option β} (n : Nat) :
    ∀ {i j : Nat} {h : AH}, i + n = l.length → n < j → Sta h0.n h0 h [cb b7 c] →
      (∀ h' y, Sta h0.n h0 h' [cb b7 c] → (∀ x ∈ l.drop i, goodC kind x) → Tl (ke0 (.int .i64 kind) v (.int .i64 op) (pt b7) (.int .i64 l.length) y h') Q) → (∀ h', Tl (kr (.bool true) h') Q) →
      Tl (F7_lrlrrr (eInv env (k + 100)) (k + 100) j (.int .i64 kind) v (.int .i64 op) (pt b7) (.int .i64 i) h ke0 kr) Q := by
  have hlen : ∀ h', pLen Try.prog #[22] v h' = some (.int .i64 l.length) := fun h' => S.len
  induction n with
  | zero =>
    intro i j h hi hj T hk hr
    obtain ⟨j, rfl⟩ : ∃ q, j = q + 1 := ⟨j - 1, by omega⟩
    simp only [F7_lrlrrr]
    have e : decide ((i : Int) < (l.length : Int)) = false := by simp; omega
    repeat (with_reducible apply Tl.val; focus (simp only [bnd_some, bin_add, bin_sub, bin_mul, bin_lss, bin_leq, bin_gtr, bin_geq, bin_eql, bin_neq, un_not, un_neg, goInt, gd_tt, gd_ff, gd_tf, gd_ft, gd_sk, gd3_tt, gd3_ff, gd3_tf, gd3_ft, gd3_sk, Option.map_some, lt_some, pick_t, pick_f, Nat.zero_add, Bool.not_true, Bool.not_false, Bool.true_and, Bool.false_and, Bool.and_true, Bool.and_false, cond_true, cond_false, beq_self_eq_true, Int.reduceBEq, decide_true, decide_false, ld2, ld3, ld9, ld26, ld28, fa26_0, fa26_1, fa26_2, fa28_0, fa28_1, fa28_2, fa28_3, aggV, aggZ, eql26, neq26, eql28, bin_eql_bool u4, hlen, e] <;> with_reducible rfl))
    with_reducible refine Tl.brF ?_
    rw [show (i : Int) = (l.length : Int) by omega]
    refine hk _ _ T ?_
    rw [List.drop_eq_nil_of_le (by omega)]
    intro x hx; cases hx
  | succ n ih =>
    intro i j h hi hj T hk hr
    obtain ⟨j, rfl⟩ : ∃ q, j = q + 1 := ⟨j - 1, by omega⟩
    have hlt : i < l.length := by omega
    obtain ⟨x, hc⟩ : ∃ x, l[i]? = some x := ⟨_, List.getElem?_eq_getElem hlt⟩
    obtain ⟨b, o, hx, hrow, hk1, _⟩ := (S.grow T.done).at_ hc
    have hd : l.drop i = x :: l.drop (i + 1) := by
      rw [List.drop_eq_getElem_cons hlt]
      rw [List.getElem?_eq_getElem hlt] at hc
      cases hc; rfl
    have w : IntKind.i64.wrap ((i : Int) + 1) = ((i + 1 : Nat) : Int) := by rw [wrap_i64 (by omega) (by omega)]; omega
    simp only [F7_lrlrrr]
    have e : decide ((i : Int) < (l.length : Int)) = true := by simp; omega
    have hk1' : h.cell b (o + 0) = some (.int .i64 x.k) := hk1
    repeat (with_reducible apply Tl.val; focus (simp only [bnd_some, bin_add, bin_sub, bin_mul, bin_lss, bin_leq, bin_gtr, bin_geq, bin_eql, bin_neq, un_not, un_neg, goInt, gd_tt, gd_ff, gd_tf, gd_ft, gd_sk, gd3_tt, gd3_ff, gd3_tf, gd3_ft, gd3_sk, Option.map_some, lt_some, pick_t, pick_f, Nat.zero_add, Bool.not_true, Bool.not_false, Bool.true_and, Bool.false_and, Bool.and_true, Bool.and_false, cond_true, cond_false, beq_self_eq_true, Int.reduceBEq, decide_true, decide_false, ld2, ld3, ld9, ld26, ld28, fa26_0, fa26_1, fa26_2, fa28_0, fa28_1, fa28_2, fa28_3, aggV, aggZ, eql26, neq26, eql28, bin_eql_bool u4, hlen, e] <;> with_reducible rfl))
    with_reducible refine Tl.brT ?_
    have step : ∀ h1, Sta h0.n h0 h1 [cb b7 c] → goodC kind x → Tl (F7_lrlrrr (eInv env (k + 100)) (k + 100) j (.int .i64 kind) v (.int .i64 op) (pt b7) (.int .i64 ((i + 1 : Nat) : Int)) h1 ke0 kr) Q := by
      intro h1 T1 hg
      refine ih (by omega) (by omega) T1 (fun h' y T' hall => hk h' y T' ?_) hr
      rw [hd]
      intro q hq
      rcases List.mem_cons.1 hq with rfl | hq
      · exact hg
      · exact hall q hq
    cases e1 : (x.k != 0)
    · have g1 : x.k = 0 := by simpa using e1
      repeat (with_reducible apply Tl.val; focus (simp only [bnd_some, bin_add, bin_sub, bin_mul, bin_lss, bin_leq, bin_gtr, bin_geq, bin_eql, bin_neq, un_not, un_neg, goInt, gd_tt, gd_ff, gd_tf, gd_ft, gd_sk, gd3_tt, gd3_ff, gd3_tf, gd3_ft, gd3_sk, Option.map_some, lt_some, pick_t, pick_f, Nat.zero_add, Bool.not_true, Bool.not_false, Bool.true_and, Bool.false_and, Bool.and_true, Bool.and_false, cond_true, cond_false, beq_self_eq_true, Int.reduceBEq, decide_true, decide_false, ld2, ld3, ld9, ld26, ld28, fa26_0, fa26_1, fa26_2, fa28_0, fa28_1, fa28_2, fa28_3, aggV, aggZ, eql26, neq26, eql28, bin_eql_bool u4, hx, hk1', Nat.add_zero, hk1, e1, hrow] <;> with_reducible rfl))
      with_reducible refine Tl.gd_on ?_
      with_reducible refine Tl.call T (f19g (k := k + 99) x h) fun h1 T1 _ => ?_
      cases e3 : (cellE x != 0)
      · repeat (with_reducible apply Tl.val; focus (simp only [bnd_some, bin_add, bin_sub, bin_mul, bin_lss, bin_leq, bin_gtr, bin_geq, bin_eql, bin_neq, un_not, un_neg, goInt, gd_tt, gd_ff, gd_tf, gd_ft, gd_sk, gd3_tt, gd3_ff, gd3_tf, gd3_ft, gd3_sk, Option.map_some, lt_some, pick_t, pick_f, Nat.zero_add, Bool.not_true, Bool.not_false, Bool.true_and, Bool.false_and, Bool.and_true, Bool.and_false, cond_true, cond_false, beq_self_eq_true, Int.reduceBEq, decide_true, decide_false, ld2, ld3, ld9, ld26, ld28, fa26_0, fa26_1, fa26_2, fa28_0, fa28_1, fa28_2, fa28_3, aggV, aggZ, eql26, neq26, eql28, bin_eql_bool u4, e3] <;> with_reducible rfl))
        with_reducible refine Tl.brF ?_
        repeat (with_reducible apply Tl.val; focus (simp only [bnd_some, bin_add, bin_sub, bin_mul, bin_lss, bin_leq, bin_gtr, bin_geq, bin_eql, bin_neq, un_not, un_neg, goInt, gd_tt, gd_ff, gd_tf, gd_ft, gd_sk, gd3_tt, gd3_ff, gd3_tf, gd3_ft, gd3_sk, Option.map_some, lt_some, pick_t, pick_f, Nat.zero_add, Bool.not_true, Bool.not_false, Bool.true_and, Bool.false_and, Bool.and_true, Bool.and_false, cond_true, cond_false, beq_self_eq_true, Int.reduceBEq, decide_true, decide_false, ld2, ld3, ld9, ld26, ld28, fa26_0, fa26_1, fa26_2, fa28_0, fa28_1, fa28_2, fa28_3, aggV, aggZ, eql26, neq26, eql28, bin_eql_bool u4, w] <;> with_reducible rfl))
        exact step h1 T1 ⟨.inl g1, by simpa using e3⟩
      · repeat (with_reducible apply Tl.val; focus (simp only [bnd_some, bin_add, bin_sub, bin_mul, bin_lss, bin_leq, bin_gtr, bin_geq, bin_eql, bin_neq, un_not, un_neg, goInt, gd_tt, gd_ff, gd_tf, gd_ft, gd_sk, gd3_tt, gd3_ff, gd3_tf, gd3_ft, gd3_sk, Option.map_some, lt_some, pick_t, pick_f, Nat.zero_add, Bool.not_true, Bool.not_false, Bool.true_and, Bool.false_and, Bool.and_true, Bool.and_false, cond_true, cond_false, beq_self_eq_true, Int.reduceBEq, decide_true, decide_false, ld2, ld3, ld9, ld26, ld28, fa26_0, fa26_1, fa26_2, fa28_0, fa28_1, fa28_2, fa28_3, aggV, aggZ, eql26, neq26, eql28, bin_eql_bool u4, e3] <;> with_reducible rfl))
        with_reducible refine Tl.brT ?_
        exact hr _
    · cases e2 : (x.k != kind)
      · have g2 : x.k = kind := by simpa using e2
        repeat (with_reducible apply Tl.val; focus (simp only [bnd_some, bin_add, bin_sub, bin_mul, bin_lss, bin_leq, bin_gtr, bin_geq, bin_eql, bin_neq, un_not, un_neg, goInt, gd_tt, gd_ff, gd_tf, gd_ft, gd_sk, gd3_tt, gd3_ff, gd3_tf, gd3_ft, gd3_sk, Option.map_some, lt_some, pick_t, pick_f, Nat.zero_add, Bool.not_true, Bool.not_false, Bool.true_and, Bool.false_and, Bool.and_true, Bool.and_false, cond_true, cond_false, beq_self_eq_true, Int.reduceBEq, decide_true, decide_false, ld2, ld3, ld9, ld26, ld28, fa26_0, fa26_1, fa26_2, fa28_0, fa28_1, fa28_2, fa28_3, aggV, aggZ, eql26, neq26, eql28, bin_eql_bool u4, hx, hk1', Nat.add_zero, hk1, e1, e2, hrow] <;> with_reducible rfl))
        with_reducible refine Tl.gd_on ?_
        with_reducible refine Tl.call T (f19g (k := k + 99) x h) fun h1 T1 _ => ?_
        cases e3 : (cellE x != 0)
        · repeat (with_reducible apply Tl.val; focus (simp only [bnd_some, bin_add, bin_sub, bin_mul, bin_lss, bin_leq, bin_gtr, bin_geq, bin_eql, bin_neq, un_not, un_neg, goInt, gd_tt, gd_ff, gd_tf, gd_ft, gd_sk, gd3_tt, gd3_ff, gd3_tf, gd3_ft, gd3_sk, Option.map_some, lt_some, pick_t, pick_f, Nat.zero_add, Bool.not_true, Bool.not_false, Bool.true_and, Bool.false_and, Bool.and_true, Bool.and_false, cond_true, cond_false, beq_self_eq_true, Int.reduceBEq, decide_true, decide_false, ld2, ld3, ld9, ld26, ld28, fa26_0, fa26_1, fa26_2, fa28_0, fa28_1, fa28_2, fa28_3, aggV, aggZ, eql26, neq26, eql28, bin_eql_bool u4, e3] <;> with_reducible rfl))
          with_reducible refine Tl.brF ?_
          repeat (with_reducible apply Tl.val; focus (simp only [bnd_some, bin_add, bin_sub, bin_mul, bin_lss, bin_leq, bin_gtr, bin_geq, bin_eql, bin_neq, un_not, un_neg, goInt, gd_tt, gd_ff, gd_tf, gd_ft, gd_sk, gd3_tt, gd3_ff, gd3_tf, gd3_ft, gd3_sk, Option.map_some, lt_some, pick_t, pick_f, Nat.zero_add, Bool.not_true, Bool.not_false, Bool.true_and, Bool.false_and, Bool.and_true, Bool.and_false, cond_true, cond_false, beq_self_eq_true, Int.reduceBEq, decide_true, decide_false, ld2, ld3, ld9, ld26, ld28, fa26_0, fa26_1, fa26_2, fa28_0, fa28_1, fa28_2, fa28_3, aggV, aggZ, eql26, neq26, eql28, bin_eql_bool u4, w] <;> with_reducible rfl))
          exact step h1 T1 ⟨.inr g2, by simpa using e3⟩
        · repeat (with_reducible apply Tl.val; focus (simp only [bnd_some, bin_add, bin_sub, bin_mul, bin_lss, bin_leq, bin_gtr, bin_geq, bin_eql, bin_neq, un_not, un_neg, goInt, gd_tt, gd_ff, gd_tf, gd_ft, gd_sk, gd3_tt, gd3_ff, gd3_tf, gd3_ft, gd3_sk, Option.map_some, lt_some, pick_t, pick_f, Nat.zero_add, Bool.not_true, Bool.not_false, Bool.true_and, Bool.false_and, Bool.and_true, Bool.and_false, cond_true, cond_false, beq_self_eq_true, Int.reduceBEq, decide_true, decide_false, ld2, ld3, ld9, ld26, ld28, fa26_0, fa26_1, fa26_2, fa28_0, fa28_1, fa28_2, fa28_3, aggV, aggZ, eql26, neq26, eql28, bin_eql_bool u4, e3] <;> with_reducible rfl))
          with_reducible refine Tl.brT ?_
          exact hr _
      · repeat (with_reducible apply Tl.val; focus (simp only [bnd_some, bin_add, bin_sub, bin_mul, bin_lss, bin_leq, bin_gtr, bin_geq, bin_eql, bin_neq, un_not, un_neg, goInt, gd_tt, gd_ff, gd_tf, gd_ft, gd_sk, gd3_tt, gd3_ff, gd3_tf, gd3_ft, gd3_sk, Option.map_some, lt_some, pick_t, pick_f, Nat.zero_add, Bool.not_true, Bool.not_false, Bool.true_and, Bool.false_and, Bool.and_true, Bool.and_false, cond_true, cond_false, beq_self_eq_true, Int.reduceBEq, decide_true, decide_false, ld2, ld3, ld9, ld26, ld28, fa26_0, fa26_1, fa26_2, fa28_0, fa28_1, fa28_2, fa28_3, aggV, aggZ, eql26, neq26, eql28, bin_eql_bool u4, hx, hk1', Nat.add_zero, hk1, e1, e2, hrow] <;> with_reducible rfl))
        with_reducible refine Tl.brT ?_
        exact hr _
theorem f7_loop2 {β : Type} {k : Nat} {Q : β → Prop} {h0 : AH} {b7 b10 : Nat} {v : Value} {l : List CellD} {c : CellD} {z : ZoneD} {kind op : Int} {may : Bool} (S : Cells h0 v l) (hl : l.length ≤ 60)
    (m1 : ∀ x ∈ l, isB op x c = true → may = true) (m2 : ∀ x ∈ l, x.k ≠ 0 → ¬ x.cmp z.mn < 0 ∧ ¬ x.cmp z.mx > 0)
    {ke2 : Value → Value → Value → Value → Value → Value → Value → Value → AH → Option β} {kr : Value → AH → Option β} (n : Nat) :
    ∀ {i j : Nat} {h : AH}, i + n = l.length → n < j → Sta h0.n h0 h [zb b10 z, cb b7 c] →
      (∀ h' y y', Sta h0.n h0 h' [zb b10 z, cb b7 c] → Tl (ke2 (.int .i64 kind) v (.int .i64 op) (pt b7) (pt b10) (.bool may) y y' h') Q) →
      Tl (F7_lrlrrrrrr (eInv env (k + 100)) (k + 100) j (.int .i64 kind) v (.int .i64 op) (pt b7) (pt b10) (.bool may) (.int .i64 i) h ke2 kr) Q := by
  have hlen : ∀ h', pLen Try.prog #[22] v h' = some (.int .i64 l.length) := fun h' => S.len
  induction n with
  | zero =>
    intro i j h hi hj T hk
    obtain ⟨j, rfl⟩ : ∃ q, j = q + 1 := ⟨j - 1, by omega⟩
    simp only [F7_lrlrrrrrr]
    have e : decide ((i : Int) < (l.length : Int)) = false := by simp; omega
    repeat (with_reducible apply Tl.val; focus (simp only [bnd_some, bin_add, bin_sub, bin_mul, bin_lss, bin_leq, bin_gtr, bin_geq, bin_eql, bin_neq, un_not, un_neg, goInt, gd_tt, gd_ff, gd_tf, gd_ft, gd_sk, gd3_tt, gd3_ff, gd3_tf, gd3_ft, gd3_sk, Option.map_some, lt_some, pick_t, pick_f, Nat.zero_add, Bool.not_true, Bool.not_false, Bool.true_and, Bool.false_and, Bool.and_true, Bool.and_false, cond_true, cond_false, beq_self_eq_true, Int.reduceBEq, decide_true, decide_false, ld2, ld3, ld9, ld26, ld28, fa26_0, fa26_1, fa26_2, fa28_0, fa28_1, fa28_2, fa28_3, aggV, aggZ, eql26, neq26, eql28, bin_eql_bool u4, hlen, e] <;> with_reducible rfl))
    with_reducible refine Tl.brF ?_
    exact hk _ _ _ T
  | succ n ih =>
    intro i j h hi hj T hk
    obtain ⟨j, rfl⟩ : ∃ q, j = q + 1 := ⟨j - 1, by omega⟩
    have hlt : i < l.length := by omega
    obtain ⟨x, hc⟩ : ∃ x, l[i]? = some x := ⟨_, List.getElem?_eq_getElem hlt⟩
    have hmem : x ∈ l := List.mem_of_getElem? hc
    obtain ⟨b, o, hx, hrow, _, _⟩ := (S.grow T.done).at_ hc
    have w : IntKind.i64.wrap ((i : Int) + 1) = ((i + 1 : Nat) : Int) := by rw [wrap_i64 (by omega) (by omega)]; omega
    simp only [F7_lrlrrrrrr]
    have e : decide ((i : Int) < (l.length : Int)) = true := by simp; omega
    have rc := row_at (i := 1) T rfl
    repeat (with_reducible apply Tl.val; focus (simp only [bnd_some, bin_add, bin_sub, bin_mul, bin_lss, bin_leq, bin_gtr, bin_geq, bin_eql, bin_neq, un_not, un_neg, goInt, gd_tt, gd_ff, gd_tf, gd_ft, gd_sk, gd3_tt, gd3_ff, gd3_tf, gd3_ft, gd3_sk, Option.map_some, lt_some, pick_t, pick_f, Nat.zero_add, Bool.not_true, Bool.not_false, Bool.true_and, Bool.false_and, Bool.and_true, Bool.and_false, cond_true, cond_false, beq_self_eq_true, Int.reduceBEq, decide_true, decide_false, ld2, ld3, ld9, ld26, ld28, fa26_0, fa26_1, fa26_2, fa28_0, fa28_1, fa28_2, fa28_3, aggV, aggZ, eql26, neq26, eql28, bin_eql_bool u4, hlen, e] <;> with_reducible rfl))
    with_reducible refine Tl.brT ?_
    unfold pt
    repeat (with_reducible apply Tl.val; focus (simp only [bnd_some, bin_add, bin_sub, bin_mul, bin_lss, bin_leq, bin_gtr, bin_geq, bin_eql, bin_neq, un_not, un_neg, goInt, gd_tt, gd_ff, gd_tf, gd_ft, gd_sk, gd3_tt, gd3_ff, gd3_tf, gd3_ft, gd3_sk, Option.map_some, lt_some, pick_t, pick_f, Nat.zero_add, Bool.not_true, Bool.not_false, Bool.true_and, Bool.false_and, Bool.and_true, Bool.and_false, cond_true, cond_false, beq_self_eq_true, Int.reduceBEq, decide_true, decide_false, ld2, ld3, ld9, ld26, ld28, fa26_0, fa26_1, fa26_2, fa28_0, fa28_1, fa28_2, fa28_3, aggV, aggZ, eql26, neq26, eql28, bin_eql_bool u4, hx, hrow, rc] <;> with_reducible rfl))
    with_reducible refine Tl.call T (f16c (k := k + 87) op x c h) fun h1 T1 _ => ?_
    obtain ⟨b', o', hx1, hrow1, hk1, _⟩ := (S.grow T1.done).at_ hc
    have hk1' : h1.cell b' (o' + 0) = some (.int .i64 x.k) := hk1
    obtain ⟨_, _, _, z4, z5, _⟩ := z_at T1 0 rfl
    have fin : ∀ h2, Sta h0.n h0 h2 [zb b10 z, cb b7 c] → Tl (F7_lrlrrrrrr (eInv env (k + 100)) (k + 100) j (.int .i64 kind) v (.int .i64 op) (.pointer (some ⟨b7, 0, none⟩)) (.pointer (some ⟨b10, 0, none⟩)) (.bool may) (.int .i64 ((i + 1 : Nat) : Int)) h2 ke2 kr) Q :=
      fun h2 T2 => ih (by omega) (by omega) T2 hk
    cases qi : isB op x c
    all_goals first
      | (have qm : may = true := m1 x hmem qi)
      | skip
    all_goals cases e1 : (x.k != 0)
    all_goals first
      | (have hx0 : x.k ≠ 0 := by simpa using e1
         obtain ⟨n1, n2⟩ := m2 x hmem hx0
         have d1 : decide (x.cmp z.mn < 0) = false := by simpa using n1
         have d2 : decide (x.cmp z.mx > 0) = false := by simpa using n2)
      | skip
    case false.false =>
      repeat (with_reducible apply Tl.val; focus (simp only [bnd_some, bin_add, bin_sub, bin_mul, bin_lss, bin_leq, bin_gtr, bin_geq, bin_eql, bin_neq, un_not, un_neg, goInt, gd_tt, gd_ff, gd_tf, gd_ft, gd_sk, gd3_tt, gd3_ff, gd3_tf, gd3_ft, gd3_sk, Option.map_some, lt_some, pick_t, pick_f, Nat.zero_add, Bool.not_true, Bool.not_false, Bool.true_and, Bool.false_and, Bool.and_true, Bool.and_false, cond_true, cond_false, beq_self_eq_true, Int.reduceBEq, decide_true, decide_false, ld2, ld3, ld9, ld26, ld28, fa26_0, fa26_1, fa26_2, fa28_0, fa28_1, fa28_2, fa28_3, aggV, aggZ, eql26, neq26, eql28, bin_eql_bool u4, qi] <;> with_reducible rfl))
      with_reducible refine Tl.brF ?_
      repeat (with_reducible apply Tl.val; focus (simp only [bnd_some, bin_add, bin_sub, bin_mul, bin_lss, bin_leq, bin_gtr, bin_geq, bin_eql, bin_neq, un_not, un_neg, goInt, gd_tt, gd_ff, gd_tf, gd_ft, gd_sk, gd3_tt, gd3_ff, gd3_tf, gd3_ft, gd3_sk, Option.map_some, lt_some, pick_t, pick_f, Nat.zero_add, Bool.not_true, Bool.not_false, Bool.true_and, Bool.false_and, Bool.and_true, Bool.and_false, cond_true, cond_false, beq_self_eq_true, Int.reduceBEq, decide_true, decide_false, ld2, ld3, ld9, ld26, ld28, fa26_0, fa26_1, fa26_2, fa28_0, fa28_1, fa28_2, fa28_3, aggV, aggZ, eql26, neq26, eql28, bin_eql_bool u4, hx1, hk1', Nat.add_zero, hk1, e1] <;> with_reducible rfl))
      with_reducible refine Tl.brF ?_
      repeat (with_reducible apply Tl.val; focus (simp only [bnd_some, bin_add, bin_sub, bin_mul, bin_lss, bin_leq, bin_gtr, bin_geq, bin_eql, bin_neq, un_not, un_neg, goInt, gd_tt, gd_ff, gd_tf, gd_ft, gd_sk, gd3_tt, gd3_ff, gd3_tf, gd3_ft, gd3_sk, Option.map_some, lt_some, pick_t, pick_f, Nat.zero_add, Bool.not_true, Bool.not_false, Bool.true_and, Bool.false_and, Bool.and_true, Bool.and_false, cond_true, cond_false, beq_self_eq_true, Int.reduceBEq, decide_true, decide_false, ld2, ld3, ld9, ld26, ld28, fa26_0, fa26_1, fa26_2, fa28_0, fa28_1, fa28_2, fa28_3, aggV, aggZ, eql26, neq26, eql28, bin_eql_bool u4, w] <;> with_reducible rfl))
      exact fin h1 T1
    case true.false =>
      subst qm
      repeat (with_reducible apply Tl.val; focus (simp only [bnd_some, bin_add, bin_sub, bin_mul, bin_lss, bin_leq, bin_gtr, bin_geq, bin_eql, bin_neq, un_not, un_neg, goInt, gd_tt, gd_ff, gd_tf, gd_ft, gd_sk, gd3_tt, gd3_ff, gd3_tf, gd3_ft, gd3_sk, Option.map_some, lt_some, pick_t, pick_f, Nat.zero_add, Bool.not_true, Bool.not_false, Bool.true_and, Bool.false_and, Bool.and_true, Bool.and_false, cond_true, cond_false, beq_self_eq_true, Int.reduceBEq, decide_true, decide_false, ld2, ld3, ld9, ld26, ld28, fa26_0, fa26_1, fa26_2, fa28_0, fa28_1, fa28_2, fa28_3, aggV, aggZ, eql26, neq26, eql28, bin_eql_bool u4, qi] <;> with_reducible rfl))
      with_reducible refine Tl.brF ?_
      repeat (with_reducible apply Tl.val; focus (simp only [bnd_some, bin_add, bin_sub, bin_mul, bin_lss, bin_leq, bin_gtr, bin_geq, bin_eql, bin_neq, un_not, un_neg, goInt, gd_tt, gd_ff, gd_tf, gd_ft, gd_sk, gd3_tt, gd3_ff, gd3_tf, gd3_ft, gd3_sk, Option.map_some, lt_some, pick_t, pick_f, Nat.zero_add, Bool.not_true, Bool.not_false, Bool.true_and, Bool.false_and, Bool.and_true, Bool.and_false, cond_true, cond_false, beq_self_eq_true, Int.reduceBEq, decide_true, decide_false, ld2, ld3, ld9, ld26, ld28, fa26_0, fa26_1, fa26_2, fa28_0, fa28_1, fa28_2, fa28_3, aggV, aggZ, eql26, neq26, eql28, bin_eql_bool u4, hx1, hk1', Nat.add_zero, hk1, e1] <;> with_reducible rfl))
      with_reducible refine Tl.brF ?_
      repeat (with_reducible apply Tl.val; focus (simp only [bnd_some, bin_add, bin_sub, bin_mul, bin_lss, bin_leq, bin_gtr, bin_geq, bin_eql, bin_neq, un_not, un_neg, goInt, gd_tt, gd_ff, gd_tf, gd_ft, gd_sk, gd3_tt, gd3_ff, gd3_tf, gd3_ft, gd3_sk, Option.map_some, lt_some, pick_t, pick_f, Nat.zero_add, Bool.not_true, Bool.not_false, Bool.true_and, Bool.false_and, Bool.and_true, Bool.and_false, cond_true, cond_false, beq_self_eq_true, Int.reduceBEq, decide_true, decide_false, ld2, ld3, ld9, ld26, ld28, fa26_0, fa26_1, fa26_2, fa28_0, fa28_1, fa28_2, fa28_3, aggV, aggZ, eql26, neq26, eql28, bin_eql_bool u4, w] <;> with_reducible rfl))
      exact fin h1 T1
    case false.true =>
      repeat (with_reducible apply Tl.val; focus (simp only [bnd_some, bin_add, bin_sub, bin_mul, bin_lss, bin_leq, bin_gtr, bin_geq, bin_eql, bin_neq, un_not, un_neg, goInt, gd_tt, gd_ff, gd_tf, gd_ft, gd_sk, gd3_tt, gd3_ff, gd3_tf, gd3_ft, gd3_sk, Option.map_some, lt_some, pick_t, pick_f, Nat.zero_add, Bool.not_true, Bool.not_false, Bool.true_and, Bool.false_and, Bool.and_true, Bool.and_false, cond_true, cond_false, beq_self_eq_true, Int.reduceBEq, decide_true, decide_false, ld2, ld3, ld9, ld26, ld28, fa26_0, fa26_1, fa26_2, fa28_0, fa28_1, fa28_2, fa28_3, aggV, aggZ, eql26, neq26, eql28, bin_eql_bool u4, qi] <;> with_reducible rfl))
      with_reducible refine Tl.brF ?_
      repeat (with_reducible apply Tl.val; focus (simp only [bnd_some, bin_add, bin_sub, bin_mul, bin_lss, bin_leq, bin_gtr, bin_geq, bin_eql, bin_neq, un_not, un_neg, goInt, gd_tt, gd_ff, gd_tf, gd_ft, gd_sk, gd3_tt, gd3_ff, gd3_tf, gd3_ft, gd3_sk, Option.map_some, lt_some, pick_t, pick_f, Nat.zero_add, Bool.not_true, Bool.not_false, Bool.true_and, Bool.false_and, Bool.and_true, Bool.and_false, cond_true, cond_false, beq_self_eq_true, Int.reduceBEq, decide_true, decide_false, ld2, ld3, ld9, ld26, ld28, fa26_0, fa26_1, fa26_2, fa28_0, fa28_1, fa28_2, fa28_3, aggV, aggZ, eql26, neq26, eql28, bin_eql_bool u4, hx1, hk1', Nat.add_zero, hk1, e1, hrow1, z4] <;> with_reducible rfl))
      with_reducible refine Tl.gd3_on ?_
      with_reducible refine Tl.call T1 (f15c (k := k + 89) x z.mn h1) fun h2 T2 _ => ?_
      obtain ⟨b2, o2, hx2, hrow2, _, _⟩ := (S.grow T2.done).at_ hc
      obtain ⟨_, _, _, _, y5, _⟩ := z_at T2 0 rfl
      repeat (with_reducible apply Tl.val; focus (simp only [bnd_some, bin_add, bin_sub, bin_mul, bin_lss, bin_leq, bin_gtr, bin_geq, bin_eql, bin_neq, un_not, un_neg, goInt, gd_tt, gd_ff, gd_tf, gd_ft, gd_sk, gd3_tt, gd3_ff, gd3_tf, gd3_ft, gd3_sk, Option.map_some, lt_some, pick_t, pick_f, Nat.zero_add, Bool.not_true, Bool.not_false, Bool.true_and, Bool.false_and, Bool.and_true, Bool.and_false, cond_true, cond_false, beq_self_eq_true, Int.reduceBEq, decide_true, decide_false, ld2, ld3, ld9, ld26, ld28, fa26_0, fa26_1, fa26_2, fa28_0, fa28_1, fa28_2, fa28_3, aggV, aggZ, eql26, neq26, eql28, bin_eql_bool u4, d1, hx2, hrow2, y5] <;> with_reducible rfl))
      with_reducible refine Tl.gd3_on ?_
      with_reducible refine Tl.call T2 (f15c (k := k + 89) x z.mx h2) fun h3 T3 _ => ?_
      repeat (with_reducible apply Tl.val; focus (simp only [bnd_some, bin_add, bin_sub, bin_mul, bin_lss, bin_leq, bin_gtr, bin_geq, bin_eql, bin_neq, un_not, un_neg, goInt, gd_tt, gd_ff, gd_tf, gd_ft, gd_sk, gd3_tt, gd3_ff, gd3_tf, gd3_ft, gd3_sk, Option.map_some, lt_some, pick_t, pick_f, Nat.zero_add, Bool.not_true, Bool.not_false, Bool.true_and, Bool.false_and, Bool.and_true, Bool.and_false, cond_true, cond_false, beq_self_eq_true, Int.reduceBEq, decide_true, decide_false, ld2, ld3, ld9, ld26, ld28, fa26_0, fa26_1, fa26_2, fa28_0, fa28_1, fa28_2, fa28_3, aggV, aggZ, eql26, neq26, eql28, bin_eql_bool u4, d2] <;> with_reducible rfl))
      with_reducible refine Tl.brF ?_
      repeat (with_reducible apply Tl.val; focus (simp only [bnd_some, bin_add, bin_sub, bin_mul, bin_lss, bin_leq, bin_gtr, bin_geq, bin_eql, bin_neq, un_not, un_neg, goInt, gd_tt, gd_ff, gd_tf, gd_ft, gd_sk, gd3_tt, gd3_ff, gd3_tf, gd3_ft, gd3_sk, Option.map_some, lt_some, pick_t, pick_f, Nat.zero_add, Bool.not_true, Bool.not_false, Bool.true_and, Bool.false_and, Bool.and_true, Bool.and_false, cond_true, cond_false, beq_self_eq_true, Int.reduceBEq, decide_true, decide_false, ld2, ld3, ld9, ld26, ld28, fa26_0, fa26_1, fa26_2, fa28_0, fa28_1, fa28_2, fa28_3, aggV, aggZ, eql26, neq26, eql28, bin_eql_bool u4, w] <;> with_reducible rfl))
      exact fin h3 T3
    case true.true =>
      subst qm
      repeat (with_reducible apply Tl.val; focus (simp only [bnd_some, bin_add, bin_sub, bin_mul, bin_lss, bin_leq, bin_gtr, bin_geq, bin_eql, bin_neq, un_not, un_neg, goInt, gd_tt, gd_ff, gd_tf, gd_ft, gd_sk, gd3_tt, gd3_ff, gd3_tf, gd3_ft, gd3_sk, Option.map_some, lt_some, pick_t, pick_f, Nat.zero_add, Bool.not_true, Bool.not_false, Bool.true_and, Bool.false_and, Bool.and_true, Bool.and_false, cond_true, cond_false, beq_self_eq_true, Int.reduceBEq, decide_true, decide_false, ld2, ld3, ld9, ld26, ld28, fa26_0, fa26_1, fa26_2, fa28_0, fa28_1, fa28_2, fa28_3, aggV, aggZ, eql26, neq26, eql28, bin_eql_bool u4, qi] <;> with_reducible rfl))
      with_reducible refine Tl.brF ?_
      repeat (with_reducible apply Tl.val; focus (simp only [bnd_some, bin_add, bin_sub, bin_mul, bin_lss, bin_leq, bin_gtr, bin_geq, bin_eql, bin_neq, un_not, un_neg, goInt, gd_tt, gd_ff, gd_tf, gd_ft, gd_sk, gd3_tt, gd3_ff, gd3_tf, gd3_ft, gd3_sk, Option.map_some, lt_some, pick_t, pick_f, Nat.zero_add, Bool.not_true, Bool.not_false, Bool.true_and, Bool.false_and, Bool.and_true, Bool.and_false, cond_true, cond_false, beq_self_eq_true, Int.reduceBEq, decide_true, decide_false, ld2, ld3, ld9, ld26, ld28, fa26_0, fa26_1, fa26_2, fa28_0, fa28_1, fa28_2, fa28_3, aggV, aggZ, eql26, neq26, eql28, bin_eql_bool u4, hx1, hk1', Nat.add_zero, hk1, e1, hrow1, z4] <;> with_reducible rfl))
      with_reducible refine Tl.gd3_on ?_
      with_reducible refine Tl.call T1 (f15c (k := k + 89) x z.mn h1) fun h2 T2 _ => ?_
      obtain ⟨b2, o2, hx2, hrow2, _, _⟩ := (S.grow T2.done).at_ hc
      obtain ⟨_, _, _, _, y5, _⟩ := z_at T2 0 rfl
      repeat (with_reducible apply Tl.val; focus (simp only [bnd_some, bin_add, bin_sub, bin_mul, bin_lss, bin_leq, bin_gtr, bin_geq, bin_eql, bin_neq, un_not, un_neg, goInt, gd_tt, gd_ff, gd_tf, gd_ft, gd_sk, gd3_tt, gd3_ff, gd3_tf, gd3_ft, gd3_sk, Option.map_some, lt_some, pick_t, pick_f, Nat.zero_add, Bool.not_true, Bool.not_false, Bool.true_and, Bool.false_and, Bool.and_true, Bool.and_false, cond_true, cond_false, beq_self_eq_true, Int.reduceBEq, decide_true, decide_false, ld2, ld3, ld9, ld26, ld28, fa26_0, fa26_1, fa26_2, fa28_0, fa28_1, fa28_2, fa28_3, aggV, aggZ, eql26, neq26, eql28, bin_eql_bool u4, d1, hx2, hrow2, y5] <;> with_reducible rfl))
      with_reducible refine Tl.gd3_on ?_
      with_reducible refine Tl.call T2 (f15c (k := k + 89) x z.mx h2) fun h3 T3 _ => ?_
      repeat (with_reducible apply Tl.val; focus (simp only [bnd_some, bin_add, bin_sub, bin_mul, bin_lss, bin_leq, bin_gtr, bin_geq, bin_eql, bin_neq, un_not, un_neg, goInt, gd_tt, gd_ff, gd_tf, gd_ft, gd_sk, gd3_tt, gd3_ff, gd3_tf, gd3_ft, gd3_sk, Option.map_some, lt_some, pick_t, pick_f, Nat.zero_add, Bool.not_true, Bool.not_false, Bool.true_and, Bool.false_and, Bool.and_true, Bool.and_false, cond_true, cond_false, beq_self_eq_true, Int.reduceBEq, decide_true, decide_false, ld2, ld3, ld9, ld26, ld28, fa26_0, fa26_1, fa26_2, fa28_0, fa28_1, fa28_2, fa28_3, aggV, aggZ, eql26, neq26, eql28, bin_eql_bool u4, d2] <;> with_reducible rfl))
      with_reducible refine Tl.brF ?_
      repeat (with_reducible apply Tl.val; focus (simp only [bnd_some, bin_add, bin_sub, bin_mul, bin_lss, bin_leq, bin_gtr, bin_geq, bin_eql, bin_neq, un_not, un_neg, goInt, gd_tt, gd_ff, gd_tf, gd_ft, gd_sk, gd3_tt, gd3_ff, gd3_tf, gd3_ft, gd3_sk, Option.map_some, lt_some, pick_t, pick_f, Nat.zero_add, Bool.not_true, Bool.not_false, Bool.true_and, Bool.false_and, Bool.and_true, Bool.and_false, cond_true, cond_false, beq_self_eq_true, Int.reduceBEq, decide_true, decide_false, ld2, ld3, ld9, ld26, ld28, fa26_0, fa26_1, fa26_2, fa28_0, fa28_1, fa28_2, fa28_3, aggV, aggZ, eql26, neq26, eql28, bin_eql_bool u4, w] <;> with_reducible rfl))
      exact fin h3 T3
end Go.Proofs.Ytpiibdegmimckaa.Sh
