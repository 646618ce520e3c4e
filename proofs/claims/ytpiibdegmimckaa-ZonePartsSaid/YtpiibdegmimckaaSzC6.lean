/- What the functions of the zone's package come to: 'one', 'Join'. -/
import Derived.Test.YtpiibdegmimckaaSzC5
set_option linter.unusedVariables false
set_option linter.unusedSimpArgs false
namespace Go.Proofs.Ytpiibdegmimckaa.Sh
open Go Go.RowKit Go.Proofs.Ev Go.Lib

def zl (z : ZoneD) : List Value := [.int .i64 z.cnt, .int .i64 z.nul, .int .i64 z.mn.k, .int .i64 z.mn.i, .string z.mn.s, .int .i64 z.mx.k, .int .i64 z.mx.i, .string z.mx.s]
def zv (z : ZoneD) : Value := .agg (zl z).toArray
def zb (b : Nat) (z : ZoneD) : Nat × AO := (b, .cells (zl z) 28 true)
theorem aggZ (z : ZoneD) : Value.agg (zl z).toArray = zv z := rfl
theorem z_at {n0 : Nat} {h0 h : AH} {L : List (Nat × AO)} {b : Nat} {z : ZoneD} (S : Sta n0 h0 h L) (i : Nat) (hi : L[i]? = some (zb b z)) :
    h.row b 0 8 = some (zl z) ∧ h.cell b 0 = some (.int .i64 z.cnt) ∧ h.cell b 1 = some (.int .i64 z.nul) ∧ h.row b 2 3 = some [.int .i64 z.mn.k, .int .i64 z.mn.i, .string z.mn.s] ∧ h.row b 5 3 = some [.int .i64 z.mx.k, .int .i64 z.mx.i, .string z.mx.s] ∧ h.cell b 2 = some (.int .i64 z.mn.k) ∧ h.cell b 5 = some (.int .i64 z.mx.k) := by
  have := S.mem.at_ hi
  exact ⟨(row_of this).trans rfl, (cell_of this).trans rfl, (cell_of this).trans rfl, (row_of this).trans rfl, (row_of this).trans rfl, (cell_of this).trans rfl, (cell_of this).trans rfl⟩
theorem sameZ (z : ZoneD) : sameV (zv z) (zv z) = true := by
  simp [zv, zl, sameV, sameList, same0, beqB]
theorem is26 : (szT Try.prog 26).isSome = true := by rw [sz26]; rfl
theorem is28 : (szT Try.prog 28).isSome = true := by rw [sz28]; rfl
def z0 : ZoneD := ⟨0, 0, c0, c0⟩
theorem bd28a : pBuild Try.prog 28 #[(0, .int .i64 1), (1, .int .i64 1)] = some (zv ⟨1, 1, c0, c0⟩) := by kernel_rfl
theorem bd28b (c : CellD) : pBuild Try.prog 28 #[(0, .int .i64 1), (2, c.v), (3, c.v)] = some (zv ⟨1, 0, c, c⟩) := by kernel_rfl
theorem bd28c (p q : Int) (c d : CellD) : pBuild Try.prog 28 #[(0, .int .i64 p), (1, .int .i64 q), (2, c.v), (3, d.v)] = some (zv ⟨p, q, c, d⟩) := by kernel_rfl
/-- 'one'. -/
theorem f23 {k : Nat} (c : CellD) (h : AH) : Tl (F23 (eInv env k) k c.v h) fun r => r.1 = zv (oneZ c) ∧ Grow h r.2 := by
  unfold F23
  refine Tl.box (Sta.init h) rfl is26 fun b1 h1 S1 _ => ?_
  refine Tl.alloc S1 ze28 rfl fun b2 h2 S2 _ => ?_
  have S2 : Sta h.n h h2 [zb b2 z0, cb b1 c] := S2
  have k1 := kind_at (i := 1) S2 rfl
  have r1 := row_at (i := 1) S2 rfl
  unfold oneZ
  cases e : (c.k == 0)
  · rw [if_neg (by simpa using e)]
    repeat (with_reducible apply Tl.val; focus (simp only [bnd_some, bin_add, bin_sub, bin_mul, bin_lss, bin_leq, bin_gtr, bin_geq, bin_eql, bin_neq, un_not, un_neg, goInt, gd_tt, gd_ff, gd_tf, gd_ft, gd_sk, gd3_tt, gd3_ff, gd3_tf, gd3_ft, gd3_sk, Option.map_some, lt_some, pick_t, pick_f, Nat.zero_add, Bool.not_true, Bool.not_false, Bool.true_and, Bool.false_and, Bool.and_true, Bool.and_false, cond_true, cond_false, beq_self_eq_true, Int.reduceBEq, decide_true, decide_false, ld2, ld3, ld9, ld26, ld28, fa26_0, fa26_1, fa26_2, fa28_0, fa28_1, fa28_2, fa28_3, aggV, aggZ, eql26, neq26, bin_eql_bool u4, k1, e] <;> with_reducible rfl))
    with_reducible refine Tl.brF ?_
    repeat (with_reducible apply Tl.val; focus (simp only [bnd_some, bin_add, bin_sub, bin_mul, bin_lss, bin_leq, bin_gtr, bin_geq, bin_eql, bin_neq, un_not, un_neg, goInt, gd_tt, gd_ff, gd_tf, gd_ft, gd_sk, gd3_tt, gd3_ff, gd3_tf, gd3_ft, gd3_sk, Option.map_some, lt_some, pick_t, pick_f, Nat.zero_add, Bool.not_true, Bool.not_false, Bool.true_and, Bool.false_and, Bool.and_true, Bool.and_false, cond_true, cond_false, beq_self_eq_true, Int.reduceBEq, decide_true, decide_false, ld2, ld3, ld9, ld26, ld28, fa26_0, fa26_1, fa26_2, fa28_0, fa28_1, fa28_2, fa28_3, aggV, aggZ, eql26, neq26, bin_eql_bool u4, r1, bd28b] <;> with_reducible rfl))
    refine Tl.store S2 0 rfl sz28 rfl rfl (by decide) fun h3 S3 => ?_
    have S3 : Sta h.n h h3 [zb b2 ⟨1, 0, c, c⟩, cb b1 c] := S3
    obtain ⟨q, _⟩ := z_at S3 0 rfl
    repeat (with_reducible apply Tl.val; focus (simp only [bnd_some, bin_add, bin_sub, bin_mul, bin_lss, bin_leq, bin_gtr, bin_geq, bin_eql, bin_neq, un_not, un_neg, goInt, gd_tt, gd_ff, gd_tf, gd_ft, gd_sk, gd3_tt, gd3_ff, gd3_tf, gd3_ft, gd3_sk, Option.map_some, lt_some, pick_t, pick_f, Nat.zero_add, Bool.not_true, Bool.not_false, Bool.true_and, Bool.false_and, Bool.and_true, Bool.and_false, cond_true, cond_false, beq_self_eq_true, Int.reduceBEq, decide_true, decide_false, ld2, ld3, ld9, ld26, ld28, fa26_0, fa26_1, fa26_2, fa28_0, fa28_1, fa28_2, fa28_3, aggV, aggZ, eql26, neq26, bin_eql_bool u4, q] <;> with_reducible rfl))
    exact ⟨_, rfl, rfl, S3.done⟩
  · rw [if_pos (by simpa using e)]
    repeat (with_reducible apply Tl.val; focus (simp only [bnd_some, bin_add, bin_sub, bin_mul, bin_lss, bin_leq, bin_gtr, bin_geq, bin_eql, bin_neq, un_not, un_neg, goInt, gd_tt, gd_ff, gd_tf, gd_ft, gd_sk, gd3_tt, gd3_ff, gd3_tf, gd3_ft, gd3_sk, Option.map_some, lt_some, pick_t, pick_f, Nat.zero_add, Bool.not_true, Bool.not_false, Bool.true_and, Bool.false_and, Bool.and_true, Bool.and_false, cond_true, cond_false, beq_self_eq_true, Int.reduceBEq, decide_true, decide_false, ld2, ld3, ld9, ld26, ld28, fa26_0, fa26_1, fa26_2, fa28_0, fa28_1, fa28_2, fa28_3, aggV, aggZ, eql26, neq26, bin_eql_bool u4, k1, e] <;> with_reducible rfl))
    with_reducible refine Tl.brT ?_
    repeat (with_reducible apply Tl.val; focus (simp only [bnd_some, bin_add, bin_sub, bin_mul, bin_lss, bin_leq, bin_gtr, bin_geq, bin_eql, bin_neq, un_not, un_neg, goInt, gd_tt, gd_ff, gd_tf, gd_ft, gd_sk, gd3_tt, gd3_ff, gd3_tf, gd3_ft, gd3_sk, Option.map_some, lt_some, pick_t, pick_f, Nat.zero_add, Bool.not_true, Bool.not_false, Bool.true_and, Bool.false_and, Bool.and_true, Bool.and_false, cond_true, cond_false, beq_self_eq_true, Int.reduceBEq, decide_true, decide_false, ld2, ld3, ld9, ld26, ld28, fa26_0, fa26_1, fa26_2, fa28_0, fa28_1, fa28_2, fa28_3, aggV, aggZ, eql26, neq26, bin_eql_bool u4, bd28a] <;> with_reducible rfl))
    refine Tl.store S2 0 rfl sz28 rfl rfl (by decide) fun h3 S3 => ?_
    have S3 : Sta h.n h h3 [zb b2 ⟨1, 1, c0, c0⟩, cb b1 c] := S3
    obtain ⟨q, _⟩ := z_at S3 0 rfl
    repeat (with_reducible apply Tl.val; focus (simp only [bnd_some, bin_add, bin_sub, bin_mul, bin_lss, bin_leq, bin_gtr, bin_geq, bin_eql, bin_neq, un_not, un_neg, goInt, gd_tt, gd_ff, gd_tf, gd_ft, gd_sk, gd3_tt, gd3_ff, gd3_tf, gd3_ft, gd3_sk, Option.map_some, lt_some, pick_t, pick_f, Nat.zero_add, Bool.not_true, Bool.not_false, Bool.true_and, Bool.false_and, Bool.and_true, Bool.and_false, cond_true, cond_false, beq_self_eq_true, Int.reduceBEq, decide_true, decide_false, ld2, ld3, ld9, ld26, ld28, fa26_0, fa26_1, fa26_2, fa28_0, fa28_1, fa28_2, fa28_3, aggV, aggZ, eql26, neq26, bin_eql_bool u4, q] <;> with_reducible rfl))
    exact ⟨_, rfl, rfl, S3.done⟩
theorem f23c {k : Nat} (c : CellD) (h : AH) : Tl (eInv env (k + 1) (.func 23) #[] #[c.v] h) fun r => r.1 = zv (oneZ c) ∧ Grow h r.2 := by
  rw [F23_call]; exact f23 c h
/-- What 'Join' makes of the ends. -/
theorem f11_ends {β : Type} {k : Nat} {Q : β → Prop} {n0 : Nat} {h0 h : AH} {b2 b3 b4 b5 : Nat} {a b w z : ZoneD} {kn : Value → Value → Value → Value → Value → AH → Option β} (hz1 : z.mn = a.mn) (hz2 : z.mx = a.mx)
    (S : Sta n0 h0 h [zb b5 z, zb b4 w, zb b3 b, zb b2 a])
    (hk : ∀ y3 y33 y53 h', Sta n0 h0 h' [zb b5 ⟨z.cnt, z.nul, if a.cnt = a.nul then b.mn else if b.cnt = b.nul then a.mn else mn2 a.mn b.mn, if a.cnt = a.nul then b.mx else if b.cnt = b.nul then a.mx else mx2 a.mx b.mx⟩, zb b4 w, zb b3 b, zb b2 a] →
      Tl (kn y3 (pt b4) (pt b5) y33 y53 h') Q) :
    Tl (F11_lrr (eInv env (k + 11)) (k + 11) (pt b2) (pt b3) (pt b4) (pt b5) h kn) Q := by
  obtain ⟨a1, a2, a3, a4, a5, _⟩ := z_at S 3 rfl
  obtain ⟨p1, p2, p3, p4, p5, _⟩ := z_at S 2 rfl
  obtain ⟨q1, q2, q3, q4, q5, _⟩ := z_at S 0 rfl
  unfold F11_lrr pt
  cases e1 : (a.cnt == a.nul)
  · have n1 : ¬ a.cnt = a.nul := by simpa using e1
    simp only [if_neg n1] at hk
    cases e2 : (b.cnt != b.nul)
    · have n2 : b.cnt = b.nul := by simpa using e2
      simp only [if_pos n2] at hk
      repeat (with_reducible apply Tl.val; focus (simp only [bnd_some, bin_add, bin_sub, bin_mul, bin_lss, bin_leq, bin_gtr, bin_geq, bin_eql, bin_neq, un_not, un_neg, goInt, gd_tt, gd_ff, gd_tf, gd_ft, gd_sk, gd3_tt, gd3_ff, gd3_tf, gd3_ft, gd3_sk, Option.map_some, lt_some, pick_t, pick_f, Nat.zero_add, Bool.not_true, Bool.not_false, Bool.true_and, Bool.false_and, Bool.and_true, Bool.and_false, cond_true, cond_false, beq_self_eq_true, Int.reduceBEq, decide_true, decide_false, ld2, ld3, ld9, ld26, ld28, fa26_0, fa26_1, fa26_2, fa28_0, fa28_1, fa28_2, fa28_3, aggV, aggZ, eql26, neq26, bin_eql_bool u4, a2, a3, e1] <;> with_reducible rfl))
      with_reducible refine Tl.brF ?_
      repeat (with_reducible apply Tl.val; focus (simp only [bnd_some, bin_add, bin_sub, bin_mul, bin_lss, bin_leq, bin_gtr, bin_geq, bin_eql, bin_neq, un_not, un_neg, goInt, gd_tt, gd_ff, gd_tf, gd_ft, gd_sk, gd3_tt, gd3_ff, gd3_tf, gd3_ft, gd3_sk, Option.map_some, lt_some, pick_t, pick_f, Nat.zero_add, Bool.not_true, Bool.not_false, Bool.true_and, Bool.false_and, Bool.and_true, Bool.and_false, cond_true, cond_false, beq_self_eq_true, Int.reduceBEq, decide_true, decide_false, ld2, ld3, ld9, ld26, ld28, fa26_0, fa26_1, fa26_2, fa28_0, fa28_1, fa28_2, fa28_3, aggV, aggZ, eql26, neq26, bin_eql_bool u4, p2, p3, e2] <;> with_reducible rfl))
      with_reducible refine Tl.brF ?_
      refine hk _ _ _ _ ?_
      rw [← hz1, ← hz2]
      exact S
    · have n2 : ¬ b.cnt = b.nul := by simpa using e2
      simp only [if_neg n2] at hk
      repeat (with_reducible apply Tl.val; focus (simp only [bnd_some, bin_add, bin_sub, bin_mul, bin_lss, bin_leq, bin_gtr, bin_geq, bin_eql, bin_neq, un_not, un_neg, goInt, gd_tt, gd_ff, gd_tf, gd_ft, gd_sk, gd3_tt, gd3_ff, gd3_tf, gd3_ft, gd3_sk, Option.map_some, lt_some, pick_t, pick_f, Nat.zero_add, Bool.not_true, Bool.not_false, Bool.true_and, Bool.false_and, Bool.and_true, Bool.and_false, cond_true, cond_false, beq_self_eq_true, Int.reduceBEq, decide_true, decide_false, ld2, ld3, ld9, ld26, ld28, fa26_0, fa26_1, fa26_2, fa28_0, fa28_1, fa28_2, fa28_3, aggV, aggZ, eql26, neq26, bin_eql_bool u4, a2, a3, e1] <;> with_reducible rfl))
      with_reducible refine Tl.brF ?_
      repeat (with_reducible apply Tl.val; focus (simp only [bnd_some, bin_add, bin_sub, bin_mul, bin_lss, bin_leq, bin_gtr, bin_geq, bin_eql, bin_neq, un_not, un_neg, goInt, gd_tt, gd_ff, gd_tf, gd_ft, gd_sk, gd3_tt, gd3_ff, gd3_tf, gd3_ft, gd3_sk, Option.map_some, lt_some, pick_t, pick_f, Nat.zero_add, Bool.not_true, Bool.not_false, Bool.true_and, Bool.false_and, Bool.and_true, Bool.and_false, cond_true, cond_false, beq_self_eq_true, Int.reduceBEq, decide_true, decide_false, ld2, ld3, ld9, ld26, ld28, fa26_0, fa26_1, fa26_2, fa28_0, fa28_1, fa28_2, fa28_3, aggV, aggZ, eql26, neq26, bin_eql_bool u4, p2, p3, e2] <;> with_reducible rfl))
      with_reducible refine Tl.brT ?_
      repeat (with_reducible apply Tl.val; focus (simp only [bnd_some, bin_add, bin_sub, bin_mul, bin_lss, bin_leq, bin_gtr, bin_geq, bin_eql, bin_neq, un_not, un_neg, goInt, gd_tt, gd_ff, gd_tf, gd_ft, gd_sk, gd3_tt, gd3_ff, gd3_tf, gd3_ft, gd3_sk, Option.map_some, lt_some, pick_t, pick_f, Nat.zero_add, Bool.not_true, Bool.not_false, Bool.true_and, Bool.false_and, Bool.and_true, Bool.and_false, cond_true, cond_false, beq_self_eq_true, Int.reduceBEq, decide_true, decide_false, ld2, ld3, ld9, ld26, ld28, fa26_0, fa26_1, fa26_2, fa28_0, fa28_1, fa28_2, fa28_3, aggV, aggZ, eql26, neq26, bin_eql_bool u4, p4, q4] <;> with_reducible rfl))
      with_reducible refine Tl.call S (f15c (k := k) b.mn z.mn h) fun h1 S1 _ => ?_
      have key : ∀ (h2 : AH) (y33 y53 : Value) (m : CellD), m = mn2 a.mn b.mn → Sta n0 h0 h2 [zb b5 ⟨z.cnt, z.nul, m, z.mx⟩, zb b4 w, zb b3 b, zb b2 a] → Tl (Ev.bnd (pFieldAddr Try.prog 28 (pt b3) 3) fun x48 => Ev.bnd (pLoad Try.prog 26 x48 h2) fun x49 => Ev.bnd (pFieldAddr Try.prog 28 (pt b5) 3) fun x50 => Ev.bnd (pLoad Try.prog 26 x50 h2) fun x51 =>
          Ev.bnd (eInv env (k + 11) (.func 15) #[] #[x49, x51] h2) fun x52 => Ev.bnd (pBin Try.prog Go.BinOp.gtr 3 (Go.Operand.tmp 52) (Go.Operand.const (Go.Value.int Go.IntKind.i64 0)) x52.1 (Go.Value.int Go.IntKind.i64 0)) fun x53 =>
          brV x53 (Ev.bnd (pFieldAddr Try.prog 28 (pt b3) 3) fun x54 => Ev.bnd (pLoad Try.prog 26 x54 x52.2) fun x55 => Ev.bnd (pFieldAddr Try.prog 28 (pt b5) 3) fun x56 => Ev.bnd (kSt (pStore Try.prog 26 x56 x55 x52.2)) fun u_3 => kn unk (pt b4) (pt b5) unk unk u_3.2)
            (kn (pt b3) (pt b4) (pt b5) unk x53 x52.2)) Q := by
        intro h2 y33 y53 m hm S2
        obtain ⟨p1, p2, p3, p4, p5, _⟩ := z_at S2 2 rfl
        obtain ⟨q1, q2, q3, q4, q5, _⟩ := z_at S2 0 rfl
        unfold pt
        repeat (with_reducible apply Tl.val; focus (simp only [bnd_some, bin_add, bin_sub, bin_mul, bin_lss, bin_leq, bin_gtr, bin_geq, bin_eql, bin_neq, un_not, un_neg, goInt, gd_tt, gd_ff, gd_tf, gd_ft, gd_sk, gd3_tt, gd3_ff, gd3_tf, gd3_ft, gd3_sk, Option.map_some, lt_some, pick_t, pick_f, Nat.zero_add, Bool.not_true, Bool.not_false, Bool.true_and, Bool.false_and, Bool.and_true, Bool.and_false, cond_true, cond_false, beq_self_eq_true, Int.reduceBEq, decide_true, decide_false, ld2, ld3, ld9, ld26, ld28, fa26_0, fa26_1, fa26_2, fa28_0, fa28_1, fa28_2, fa28_3, aggV, aggZ, eql26, neq26, bin_eql_bool u4, p5, q5] <;> with_reducible rfl))
        with_reducible refine Tl.call S2 (f15c (k := k) b.mx z.mx h2) fun h3 S3 _ => ?_
        obtain ⟨p1, p2, p3, p4, p5, _⟩ := z_at S3 2 rfl
        subst hm
        cases e3 : decide (b.mx.cmp z.mx > 0)
        · have e3' : ¬ b.mx.cmp a.mx > 0 := by rw [← hz2]; simpa using e3
          repeat (with_reducible apply Tl.val; focus (simp only [bnd_some, bin_add, bin_sub, bin_mul, bin_lss, bin_leq, bin_gtr, bin_geq, bin_eql, bin_neq, un_not, un_neg, goInt, gd_tt, gd_ff, gd_tf, gd_ft, gd_sk, gd3_tt, gd3_ff, gd3_tf, gd3_ft, gd3_sk, Option.map_some, lt_some, pick_t, pick_f, Nat.zero_add, Bool.not_true, Bool.not_false, Bool.true_and, Bool.false_and, Bool.and_true, Bool.and_false, cond_true, cond_false, beq_self_eq_true, Int.reduceBEq, decide_true, decide_false, ld2, ld3, ld9, ld26, ld28, fa26_0, fa26_1, fa26_2, fa28_0, fa28_1, fa28_2, fa28_3, aggV, aggZ, eql26, neq26, bin_eql_bool u4, e3] <;> with_reducible rfl))
          with_reducible refine Tl.brF ?_
          refine hk _ _ _ _ ?_
          rw [show mx2 a.mx b.mx = z.mx by unfold mx2; rw [if_neg e3', hz2]]
          exact S3
        · have e3' : b.mx.cmp a.mx > 0 := by rw [← hz2]; simpa using e3
          repeat (with_reducible apply Tl.val; focus (simp only [bnd_some, bin_add, bin_sub, bin_mul, bin_lss, bin_leq, bin_gtr, bin_geq, bin_eql, bin_neq, un_not, un_neg, goInt, gd_tt, gd_ff, gd_tf, gd_ft, gd_sk, gd3_tt, gd3_ff, gd3_tf, gd3_ft, gd3_sk, Option.map_some, lt_some, pick_t, pick_f, Nat.zero_add, Bool.not_true, Bool.not_false, Bool.true_and, Bool.false_and, Bool.and_true, Bool.and_false, cond_true, cond_false, beq_self_eq_true, Int.reduceBEq, decide_true, decide_false, ld2, ld3, ld9, ld26, ld28, fa26_0, fa26_1, fa26_2, fa28_0, fa28_1, fa28_2, fa28_3, aggV, aggZ, eql26, neq26, bin_eql_bool u4, e3] <;> with_reducible rfl))
          with_reducible refine Tl.brT ?_
          repeat (with_reducible apply Tl.val; focus (simp only [bnd_some, bin_add, bin_sub, bin_mul, bin_lss, bin_leq, bin_gtr, bin_geq, bin_eql, bin_neq, un_not, un_neg, goInt, gd_tt, gd_ff, gd_tf, gd_ft, gd_sk, gd3_tt, gd3_ff, gd3_tf, gd3_ft, gd3_sk, Option.map_some, lt_some, pick_t, pick_f, Nat.zero_add, Bool.not_true, Bool.not_false, Bool.true_and, Bool.false_and, Bool.and_true, Bool.and_false, cond_true, cond_false, beq_self_eq_true, Int.reduceBEq, decide_true, decide_false, ld2, ld3, ld9, ld26, ld28, fa26_0, fa26_1, fa26_2, fa28_0, fa28_1, fa28_2, fa28_3, aggV, aggZ, eql26, neq26, bin_eql_bool u4, p5] <;> with_reducible rfl))
          refine Tl.store S3 0 rfl sz26 rfl rfl (of_decide_eq_true rfl) fun h4 S4 => ?_
          refine hk _ _ _ _ ?_
          rw [show mx2 a.mx b.mx = b.mx by unfold mx2; rw [if_pos e3']]
          exact S4
      unfold F11_rllrrrllrr
      cases e3 : decide (b.mn.cmp z.mn < 0)
      · have e3' : ¬ b.mn.cmp a.mn < 0 := by rw [← hz1]; simpa using e3
        repeat (with_reducible apply Tl.val; focus (simp only [bnd_some, bin_add, bin_sub, bin_mul, bin_lss, bin_leq, bin_gtr, bin_geq, bin_eql, bin_neq, un_not, un_neg, goInt, gd_tt, gd_ff, gd_tf, gd_ft, gd_sk, gd3_tt, gd3_ff, gd3_tf, gd3_ft, gd3_sk, Option.map_some, lt_some, pick_t, pick_f, Nat.zero_add, Bool.not_true, Bool.not_false, Bool.true_and, Bool.false_and, Bool.and_true, Bool.and_false, cond_true, cond_false, beq_self_eq_true, Int.reduceBEq, decide_true, decide_false, ld2, ld3, ld9, ld26, ld28, fa26_0, fa26_1, fa26_2, fa28_0, fa28_1, fa28_2, fa28_3, aggV, aggZ, eql26, neq26, bin_eql_bool u4, e3] <;> with_reducible rfl))
        with_reducible refine Tl.brF ?_
        exact key h1 unk unk z.mn (by unfold mn2; rw [if_neg e3', hz1]) S1
      · have e3' : b.mn.cmp a.mn < 0 := by rw [← hz1]; simpa using e3
        obtain ⟨p1, p2, p3, p4, p5, _⟩ := z_at S1 2 rfl
        repeat (with_reducible apply Tl.val; focus (simp only [bnd_some, bin_add, bin_sub, bin_mul, bin_lss, bin_leq, bin_gtr, bin_geq, bin_eql, bin_neq, un_not, un_neg, goInt, gd_tt, gd_ff, gd_tf, gd_ft, gd_sk, gd3_tt, gd3_ff, gd3_tf, gd3_ft, gd3_sk, Option.map_some, lt_some, pick_t, pick_f, Nat.zero_add, Bool.not_true, Bool.not_false, Bool.true_and, Bool.false_and, Bool.and_true, Bool.and_false, cond_true, cond_false, beq_self_eq_true, Int.reduceBEq, decide_true, decide_false, ld2, ld3, ld9, ld26, ld28, fa26_0, fa26_1, fa26_2, fa28_0, fa28_1, fa28_2, fa28_3, aggV, aggZ, eql26, neq26, bin_eql_bool u4, e3] <;> with_reducible rfl))
        with_reducible refine Tl.brT ?_
        repeat (with_reducible apply Tl.val; focus (simp only [bnd_some, bin_add, bin_sub, bin_mul, bin_lss, bin_leq, bin_gtr, bin_geq, bin_eql, bin_neq, un_not, un_neg, goInt, gd_tt, gd_ff, gd_tf, gd_ft, gd_sk, gd3_tt, gd3_ff, gd3_tf, gd3_ft, gd3_sk, Option.map_some, lt_some, pick_t, pick_f, Nat.zero_add, Bool.not_true, Bool.not_false, Bool.true_and, Bool.false_and, Bool.and_true, Bool.and_false, cond_true, cond_false, beq_self_eq_true, Int.reduceBEq, decide_true, decide_false, ld2, ld3, ld9, ld26, ld28, fa26_0, fa26_1, fa26_2, fa28_0, fa28_1, fa28_2, fa28_3, aggV, aggZ, eql26, neq26, bin_eql_bool u4, p4] <;> with_reducible rfl))
        refine Tl.store S1 0 rfl sz26 rfl rfl (of_decide_eq_true rfl) fun h4 S4 => ?_
        exact key h4 unk unk b.mn (by unfold mn2; rw [if_pos e3']) S4
  · have n1 : a.cnt = a.nul := by simpa using e1
    simp only [if_pos n1] at hk
    repeat (with_reducible apply Tl.val; focus (simp only [bnd_some, bin_add, bin_sub, bin_mul, bin_lss, bin_leq, bin_gtr, bin_geq, bin_eql, bin_neq, un_not, un_neg, goInt, gd_tt, gd_ff, gd_tf, gd_ft, gd_sk, gd3_tt, gd3_ff, gd3_tf, gd3_ft, gd3_sk, Option.map_some, lt_some, pick_t, pick_f, Nat.zero_add, Bool.not_true, Bool.not_false, Bool.true_and, Bool.false_and, Bool.and_true, Bool.and_false, cond_true, cond_false, beq_self_eq_true, Int.reduceBEq, decide_true, decide_false, ld2, ld3, ld9, ld26, ld28, fa26_0, fa26_1, fa26_2, fa28_0, fa28_1, fa28_2, fa28_3, aggV, aggZ, eql26, neq26, bin_eql_bool u4, a2, a3, e1] <;> with_reducible rfl))
    with_reducible refine Tl.brT ?_
    repeat (with_reducible apply Tl.val; focus (simp only [bnd_some, bin_add, bin_sub, bin_mul, bin_lss, bin_leq, bin_gtr, bin_geq, bin_eql, bin_neq, un_not, un_neg, goInt, gd_tt, gd_ff, gd_tf, gd_ft, gd_sk, gd3_tt, gd3_ff, gd3_tf, gd3_ft, gd3_sk, Option.map_some, lt_some, pick_t, pick_f, Nat.zero_add, Bool.not_true, Bool.not_false, Bool.true_and, Bool.false_and, Bool.and_true, Bool.and_false, cond_true, cond_false, beq_self_eq_true, Int.reduceBEq, decide_true, decide_false, ld2, ld3, ld9, ld26, ld28, fa26_0, fa26_1, fa26_2, fa28_0, fa28_1, fa28_2, fa28_3, aggV, aggZ, eql26, neq26, bin_eql_bool u4, p4, p5] <;> with_reducible rfl))
    refine Tl.store S 0 rfl sz26 rfl rfl (of_decide_eq_true rfl) fun h1 S1 => ?_
    have S1 : Sta n0 h0 h1 [zb b5 ⟨z.cnt, z.nul, b.mn, z.mx⟩, zb b4 w, zb b3 b, zb b2 a] := S1
    obtain ⟨s1, s2, s3, s4, s5, _⟩ := z_at S1 2 rfl
    repeat (with_reducible apply Tl.val; focus (simp only [bnd_some, bin_add, bin_sub, bin_mul, bin_lss, bin_leq, bin_gtr, bin_geq, bin_eql, bin_neq, un_not, un_neg, goInt, gd_tt, gd_ff, gd_tf, gd_ft, gd_sk, gd3_tt, gd3_ff, gd3_tf, gd3_ft, gd3_sk, Option.map_some, lt_some, pick_t, pick_f, Nat.zero_add, Bool.not_true, Bool.not_false, Bool.true_and, Bool.false_and, Bool.and_true, Bool.and_false, cond_true, cond_false, beq_self_eq_true, Int.reduceBEq, decide_true, decide_false, ld2, ld3, ld9, ld26, ld28, fa26_0, fa26_1, fa26_2, fa28_0, fa28_1, fa28_2, fa28_3, aggV, aggZ, eql26, neq26, bin_eql_bool u4, s4] <;> with_reducible rfl))
    refine Tl.store S1 0 rfl sz26 rfl rfl (of_decide_eq_true rfl) fun h2 S2 => ?_
    have S2 : Sta n0 h0 h2 [zb b5 ⟨z.cnt, z.nul, b.mn, b.mx⟩, zb b4 w, zb b3 b, zb b2 a] := S2
    with_reducible refine Tl.chk ?_ ?_
    · simp only [ld26, p5, s5, Option.map_some, aggV, sameO_some, sameC, Bool.and_self, Bool.not_true, Bool.or_true, Bool.true_and, Bool.false_or]
    exact hk _ _ _ _ S2
/-- 'Join'. -/
theorem f11 {k : Nat} (a b : ZoneD) (h : AH) : Tl (F11 (eInv env (k + 11)) (k + 11) (zv a) (zv b) h) fun r => r.1 = zv (joinZ a b) ∧ Grow h r.2 := by
  unfold F11
  refine Tl.box (Sta.init h) rfl is28 fun b2 h1 S1 _ => ?_
  refine Tl.box S1 rfl is28 fun b3 h2 S2 _ => ?_
  refine Tl.alloc S2 ze28 rfl fun b4 h3 S3 _ => ?_
  have S3 : Sta h.n h h3 [zb b4 z0, zb b3 b, zb b2 a] := S3
  obtain ⟨a1, a2, a3, a4, a5, _⟩ := z_at S3 2 rfl
  obtain ⟨p1, p2, p3, p4, p5, _⟩ := z_at S3 1 rfl
  repeat (with_reducible apply Tl.val; focus (simp only [bnd_some, bin_add, bin_sub, bin_mul, bin_lss, bin_leq, bin_gtr, bin_geq, bin_eql, bin_neq, un_not, un_neg, goInt, gd_tt, gd_ff, gd_tf, gd_ft, gd_sk, gd3_tt, gd3_ff, gd3_tf, gd3_ft, gd3_sk, Option.map_some, lt_some, pick_t, pick_f, Nat.zero_add, Bool.not_true, Bool.not_false, Bool.true_and, Bool.false_and, Bool.and_true, Bool.and_false, cond_true, cond_false, beq_self_eq_true, Int.reduceBEq, decide_true, decide_false, ld2, ld3, ld9, ld26, ld28, fa26_0, fa26_1, fa26_2, fa28_0, fa28_1, fa28_2, fa28_3, aggV, aggZ, eql26, neq26, bin_eql_bool u4, a2, a3, a4, a5, p2, p3, bd28c] <;> with_reducible rfl))
  refine Tl.alloc S3 ze28 rfl fun b5 h4 S4 _ => ?_
  refine Tl.store S4 0 rfl sz28 rfl rfl (of_decide_eq_true rfl) fun h5 S5 => ?_
  have S5 : Sta h.n h h5 [zb b5 ⟨IntKind.i64.wrap (a.cnt + b.cnt), IntKind.i64.wrap (a.nul + b.nul), a.mn, a.mx⟩, zb b4 z0, zb b3 b, zb b2 a] := S5
  refine f11_ends (z := ⟨IntKind.i64.wrap (a.cnt + b.cnt), IntKind.i64.wrap (a.nul + b.nul), a.mn, a.mx⟩) (a := a) (b := b) (w := z0) rfl rfl S5 fun y3 y33 y53 h6 S6 => ?_
  have S6 : Sta h.n h h6 [zb b5 (joinZ a b), zb b4 z0, zb b3 b, zb b2 a] := S6
  obtain ⟨s1, _⟩ := z_at S6 0 rfl
  unfold pt
  repeat (with_reducible apply Tl.val; focus (simp only [bnd_some, bin_add, bin_sub, bin_mul, bin_lss, bin_leq, bin_gtr, bin_geq, bin_eql, bin_neq, un_not, un_neg, goInt, gd_tt, gd_ff, gd_tf, gd_ft, gd_sk, gd3_tt, gd3_ff, gd3_tf, gd3_ft, gd3_sk, Option.map_some, lt_some, pick_t, pick_f, Nat.zero_add, Bool.not_true, Bool.not_false, Bool.true_and, Bool.false_and, Bool.and_true, Bool.and_false, cond_true, cond_false, beq_self_eq_true, Int.reduceBEq, decide_true, decide_false, ld2, ld3, ld9, ld26, ld28, fa26_0, fa26_1, fa26_2, fa28_0, fa28_1, fa28_2, fa28_3, aggV, aggZ, eql26, neq26, bin_eql_bool u4, s1] <;> with_reducible rfl))
  refine Tl.store S6 1 rfl sz28 rfl rfl (of_decide_eq_true rfl) fun h7 S7 => ?_
  have S7 : Sta h.n h h7 [zb b5 (joinZ a b), zb b4 (joinZ a b), zb b3 b, zb b2 a] := S7
  obtain ⟨t1, _⟩ := z_at S7 1 rfl
  repeat (with_reducible apply Tl.val; focus (simp only [bnd_some, bin_add, bin_sub, bin_mul, bin_lss, bin_leq, bin_gtr, bin_geq, bin_eql, bin_neq, un_not, un_neg, goInt, gd_tt, gd_ff, gd_tf, gd_ft, gd_sk, gd3_tt, gd3_ff, gd3_tf, gd3_ft, gd3_sk, Option.map_some, lt_some, pick_t, pick_f, Nat.zero_add, Bool.not_true, Bool.not_false, Bool.true_and, Bool.false_and, Bool.and_true, Bool.and_false, cond_true, cond_false, beq_self_eq_true, Int.reduceBEq, decide_true, decide_false, ld2, ld3, ld9, ld26, ld28, fa26_0, fa26_1, fa26_2, fa28_0, fa28_1, fa28_2, fa28_3, aggV, aggZ, eql26, neq26, bin_eql_bool u4, t1] <;> with_reducible rfl))
  exact ⟨_, rfl, rfl, S7.done⟩
theorem f11c {k : Nat} (a b : ZoneD) (h : AH) : Tl (eInv env (k + 12) (.func 11) #[] #[zv a, zv b] h) fun r => r.1 = zv (joinZ a b) ∧ Grow h r.2 := by
  rw [F11_call]; exact f11 a b h
end Go.Proofs.Ytpiibdegmimckaa.Sh
