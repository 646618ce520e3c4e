/- Left early. -/
import Derived.Test.YtodokclcffejfaaSzP12
import Derived.Test.YtodokclcffejfaaEv31
set_option linter.unusedVariables false
set_option linter.unusedSimpArgs false
set_option maxRecDepth 100000
namespace Go.Proofs.Ytodokclcffejfaa.Sh
open Go Go.RowKit Go.Proofs.Ev

theorem f9g {k : Nat} {m : Nat} (hm : 0 < m) (hm2 : m ≤ 2 ^ 40) (n : Int) (h : AH) : ∃ w : Nat, w < m ∧ eInv env (k + 1) (.func 9) #[] #[.int .i64 n, .int .i64 m] h = some (.int .i64 w, h) := by
  have T : Tl (F9 (eInv env k) k (.int .i64 n) (.int .i64 m) h) fun r => ∃ w : Nat, w < m ∧ r = (.int .i64 w, h) := by
    unfold F9
    have e : decide ((m : Int) < 1) = false := by simp; omega
    have r1 := Int.tmod_lt_of_pos n (show (0 : Int) < m by omega)
    have r2 : -(m : Int) < n.tmod m := by
      have h1 := Int.tmod_lt_of_pos (-n) (show (0 : Int) < m by omega)
      rw [Int.neg_tmod] at h1
      omega
    repeat (with_reducible apply Tl.val; focus (simp only [bnd_some, bin_add, bin_sub, bin_mul, bin_lss, bin_leq, bin_gtr, bin_geq, bin_eql, bin_neq, un_not, un_neg, goInt, gd_tt, gd_ff, gd_tf, gd_ft, gd_sk, gd3_tt, gd3_ff, gd3_tf, gd3_ft, gd3_sk, Option.map_some, lt_some, pick_t, pick_f, Nat.zero_add, Bool.not_true, Bool.not_false, Bool.true_and, Bool.false_and, Bool.and_true, Bool.and_false, cond_true, cond_false, beq_self_eq_true, Int.reduceBEq, decide_true, decide_false, ld3, ld4, ld5, ld22, ld25, ld30, conv_int u30 u5, conv_int u5 u3, conv_int u5 u30, bin_eql_bool u4, bin_neq_bool u4, xor64u, and64u, or64u, or8, and8, ex0, ex1, e] <;> with_reducible rfl))
    with_reducible refine Tl.brF ?_
    unfold F9_rlrrr
    by_cases q : n.tmod m < 0
    · have e1 : decide (n.tmod m < 0) = true := by simpa using q
      have w1 : IntKind.i64.wrap (n.tmod m + m) = (((n.tmod m + m).toNat : Nat) : Int) := by rw [wrap_i64']; split <;> omega
      repeat (with_reducible apply Tl.val; focus (simp only [bnd_some, bin_add, bin_sub, bin_mul, bin_lss, bin_leq, bin_gtr, bin_geq, bin_eql, bin_neq, un_not, un_neg, goInt, gd_tt, gd_ff, gd_tf, gd_ft, gd_sk, gd3_tt, gd3_ff, gd3_tf, gd3_ft, gd3_sk, Option.map_some, lt_some, pick_t, pick_f, Nat.zero_add, Bool.not_true, Bool.not_false, Bool.true_and, Bool.false_and, Bool.and_true, Bool.and_false, cond_true, cond_false, beq_self_eq_true, Int.reduceBEq, decide_true, decide_false, ld3, ld4, ld5, ld22, ld25, ld30, conv_int u30 u5, conv_int u5 u3, conv_int u5 u30, bin_eql_bool u4, bin_neq_bool u4, xor64u, and64u, or64u, or8, and8, ex0, ex1, bin_rem (show (m : Int) ≠ 0 by omega), e1] <;> with_reducible rfl))
      with_reducible refine Tl.brT ?_
      repeat (with_reducible apply Tl.val; focus (simp only [bnd_some, bin_add, bin_sub, bin_mul, bin_lss, bin_leq, bin_gtr, bin_geq, bin_eql, bin_neq, un_not, un_neg, goInt, gd_tt, gd_ff, gd_tf, gd_ft, gd_sk, gd3_tt, gd3_ff, gd3_tf, gd3_ft, gd3_sk, Option.map_some, lt_some, pick_t, pick_f, Nat.zero_add, Bool.not_true, Bool.not_false, Bool.true_and, Bool.false_and, Bool.and_true, Bool.and_false, cond_true, cond_false, beq_self_eq_true, Int.reduceBEq, decide_true, decide_false, ld3, ld4, ld5, ld22, ld25, ld30, conv_int u30 u5, conv_int u5 u3, conv_int u5 u30, bin_eql_bool u4, bin_neq_bool u4, xor64u, and64u, or64u, or8, and8, ex0, ex1, w1] <;> with_reducible rfl))
      exact ⟨_, rfl, _, by omega, rfl⟩
    · have e1 : decide (n.tmod m < 0) = false := by simpa using q
      repeat (with_reducible apply Tl.val; focus (simp only [bnd_some, bin_add, bin_sub, bin_mul, bin_lss, bin_leq, bin_gtr, bin_geq, bin_eql, bin_neq, un_not, un_neg, goInt, gd_tt, gd_ff, gd_tf, gd_ft, gd_sk, gd3_tt, gd3_ff, gd3_tf, gd3_ft, gd3_sk, Option.map_some, lt_some, pick_t, pick_f, Nat.zero_add, Bool.not_true, Bool.not_false, Bool.true_and, Bool.false_and, Bool.and_true, Bool.and_false, cond_true, cond_false, beq_self_eq_true, Int.reduceBEq, decide_true, decide_false, ld3, ld4, ld5, ld22, ld25, ld30, conv_int u30 u5, conv_int u5 u3, conv_int u5 u30, bin_eql_bool u4, bin_neq_bool u4, xor64u, and64u, or64u, or8, and8, ex0, ex1, bin_rem (show (m : Int) ≠ 0 by omega), e1] <;> with_reducible rfl))
      with_reducible refine Tl.brF ?_
      refine ⟨_, rfl, (n.tmod m).toNat, by omega, ?_⟩
      rw [show (((n.tmod m).toNat : Nat) : Int) = n.tmod m by omega]
  obtain ⟨r, h1, w, hw, h2⟩ := T
  exact ⟨w, hw, by rw [F9_call, h1, h2]⟩
noncomputable def lp7 (st : LoopState) (pd : Option Code) (wh : Nat) (v : Value) (b4 b5 b8 b12 : Nat) (x54 : Value) : AO := .loop st pd 7 (act 115 [(2, .int .i64 (wh : Int)), (3, v), (4, pt b4), (5, pt b5), (8, pt b8), (12, pt b12), (54, x54)]).tmps (psOf (cl (cr (cl (cr (cr (cr (cr (cr (cr (cr (cr c7)))))))))))) (cl (cl (cr (cl (cr (cr (cr (cr (cr (cr (cr (cr c7)))))))))))) (cr (cl (cr (cl (cr (cr (cr (cr (cr (cr (cr (cr c7))))))))))))
noncomputable def L9 (lo : AO) (bl e3 e4 e5 b12 bx b8 b5 b4 : Nat) (bv : Value) (N i early : Nat) (ox : AO) (v0 : Value) : List (Nat × AO) :=
  [(bl, lo), (b12, .cells [.int .i64 (i : Int)] 3 true), (e5, .cells [.int .i64 ((64 : Nat) : Int)] 3 true), (e4, .cells [.int .i64 (N : Int)] 3 true), (e3, .cells [bv] 25 true), (bx, ox), (b8, .cells [.bool false] 4 true), (b5, .cells [.int .i64 (early : Int)] 3 true), (b4, .cells [v0] 22 true)]
theorem r7 {k : Nat} {h0 h : AH} {bl e3 e4 e5 b12 bx b8 b5 b4 N i early wh : Nat} {x54 bv v0 vv : Value} {ox : AO} {l : List Nat} (S : Sta h0.n h0 h (L9 (lp7 .ready none wh vv b4 b5 b8 b12 x54) bl e3 e4 e5 b12 bx b8 b5 b4 bv N i early ox v0))
    (A : Words h0 v0 (ints l)) {c : Nat} (hc : l[i]? = some c) (hi : i ≤ early) (hn : i < 1000) :
    Tl (callV (eInv env (k + 1)) (.func (.yield bl) #[] #[]) #[.int .i64 (i : Int), .int .u64 (c : Int)] h) fun r =>
      (r.1 = .bool true ∧ i < early ∧ Sta h0.n h0 r.2 (L9 (lp7 .ready none wh vv b4 b5 b8 b12 x54) bl e3 e4 e5 b12 bx b8 b5 b4 bv N (i + 1) early ox v0)) ∨
      (r.1 = .bool false ∧ i = early ∧ Sta h0.n h0 r.2 (L9 (lp7 .done (some (.exit 0)) wh vv b4 b5 b8 b12 x54) bl e3 e4 e5 b12 bx b8 b5 b4 bv N i early ox v0)) := by
  have hl0 := S.mem.at_ (i := 0) rfl
  have e : callV (eInv env (k + 1)) (.func (.yield bl) #[] #[]) #[.int .i64 (i : Int), .int .u64 (c : Int)] h = eInv env (k + 1) (.yield bl) #[] (#[] ++ #[.int .i64 (i : Int), .int .u64 (c : Int)]) h := rfl
  rw [e, show ((#[] : Array Value) ++ #[.int .i64 (i : Int), .int .u64 (c : Int)]) = #[.int .i64 (i : Int), .int .u64 (c : Int)] by simp, inv_yield, R7_lrlrrrrrrrr_eq hl0]
  unfold R7_lrlrrrrrrrr
  refine Tl.rdBeginX S 0 rfl fun h1 S1 G1 => ?_
  have c12 : h1.cell b12 0 = some (.int .i64 (i : Int)) := (Ev.cell_of (S1.mem.at_ (i := 1) rfl)).trans rfl
  have c5 : h1.cell b5 0 = some (.int .i64 (early : Int)) := (Ev.cell_of (S1.mem.at_ (i := 7) rfl)).trans rfl
  have c4 : h1.cell b4 0 = some v0 := (Ev.cell_of (S1.mem.at_ (i := 8) rfl)).trans rfl
  unfold pt
  by_cases q : i = early
  · have ee : ((i : Int) == (early : Int)) = true := by simp [q]
    repeat (with_reducible apply Tl.val; focus (simp only [bnd_some, bin_add, bin_sub, bin_mul, bin_lss, bin_leq, bin_gtr, bin_geq, bin_eql, bin_neq, un_not, un_neg, goInt, gd_tt, gd_ff, gd_tf, gd_ft, gd_sk, gd3_tt, gd3_ff, gd3_tf, gd3_ft, gd3_sk, Option.map_some, lt_some, pick_t, pick_f, Nat.zero_add, Bool.not_true, Bool.not_false, Bool.true_and, Bool.false_and, Bool.and_true, Bool.and_false, cond_true, cond_false, beq_self_eq_true, Int.reduceBEq, decide_true, decide_false, ld3, ld4, ld5, ld22, ld25, ld30, conv_int u30 u5, conv_int u5 u3, conv_int u5 u30, bin_eql_bool u4, bin_neq_bool u4, xor64u, and64u, or64u, or8, and8, ex0, ex1, c12, c5, ee] <;> with_reducible rfl))
    with_reducible refine Tl.brT ?_
    obtain ⟨h3, q1, q2, _⟩ := rdEnd_X (x := .exit 0) S1 0 rfl
    refine ⟨_, q1, .inr ⟨rfl, q, q2⟩⟩
  · have ee : ((i : Int) == (early : Int)) = false := by simp; omega
    repeat (with_reducible apply Tl.val; focus (simp only [bnd_some, bin_add, bin_sub, bin_mul, bin_lss, bin_leq, bin_gtr, bin_geq, bin_eql, bin_neq, un_not, un_neg, goInt, gd_tt, gd_ff, gd_tf, gd_ft, gd_sk, gd3_tt, gd3_ff, gd3_tf, gd3_ft, gd3_sk, Option.map_some, lt_some, pick_t, pick_f, Nat.zero_add, Bool.not_true, Bool.not_false, Bool.true_and, Bool.false_and, Bool.and_true, Bool.and_false, cond_true, cond_false, beq_self_eq_true, Int.reduceBEq, decide_true, decide_false, ld3, ld4, ld5, ld22, ld25, ld30, conv_int u30 u5, conv_int u5 u3, conv_int u5 u30, bin_eql_bool u4, bin_neq_bool u4, xor64u, and64u, or64u, or8, and8, ex0, ex1, c12, c5, ee] <;> with_reducible rfl))
    with_reducible refine Tl.brF ?_
    obtain ⟨b, o, hx, h2⟩ := (A.grow S1.done).at_ (i := i) (c := (c : Int)) (by simp [ints, hc])
    have e1 : ((i : Int) != (i : Int)) = false := by simp
    have e2 : ((c : Int) != (c : Int)) = false := by simp
    have w1 : IntKind.i64.wrap ((i : Int) + 1) = ((i + 1 : Nat) : Int) := by rw [wrap_i64']; split <;> omega
    repeat (with_reducible apply Tl.val; focus (simp only [bnd_some, bin_add, bin_sub, bin_mul, bin_lss, bin_leq, bin_gtr, bin_geq, bin_eql, bin_neq, un_not, un_neg, goInt, gd_tt, gd_ff, gd_tf, gd_ft, gd_sk, gd3_tt, gd3_ff, gd3_tf, gd3_ft, gd3_sk, Option.map_some, lt_some, pick_t, pick_f, Nat.zero_add, Bool.not_true, Bool.not_false, Bool.true_and, Bool.false_and, Bool.and_true, Bool.and_false, cond_true, cond_false, beq_self_eq_true, Int.reduceBEq, decide_true, decide_false, ld3, ld4, ld5, ld22, ld25, ld30, conv_int u30 u5, conv_int u5 u3, conv_int u5 u30, bin_eql_bool u4, bin_neq_bool u4, xor64u, and64u, or64u, or8, and8, ex0, ex1, c12, c4, hx, h2, e1, e2] <;> with_reducible rfl))
    with_reducible refine Tl.brF ?_
    repeat (with_reducible apply Tl.val; focus (simp only [bnd_some, bin_add, bin_sub, bin_mul, bin_lss, bin_leq, bin_gtr, bin_geq, bin_eql, bin_neq, un_not, un_neg, goInt, gd_tt, gd_ff, gd_tf, gd_ft, gd_sk, gd3_tt, gd3_ff, gd3_tf, gd3_ft, gd3_sk, Option.map_some, lt_some, pick_t, pick_f, Nat.zero_add, Bool.not_true, Bool.not_false, Bool.true_and, Bool.false_and, Bool.and_true, Bool.and_false, cond_true, cond_false, beq_self_eq_true, Int.reduceBEq, decide_true, decide_false, ld3, ld4, ld5, ld22, ld25, ld30, conv_int u30 u5, conv_int u5 u3, conv_int u5 u30, bin_eql_bool u4, bin_neq_bool u4, xor64u, and64u, or64u, or8, and8, ex0, ex1, c12, w1] <;> with_reducible rfl))
    refine Tl.store S1 1 rfl sz3 rfl rfl (of_decide_eq_true rfl) fun h2 S2 => ?_
    obtain ⟨h3, q1, q2, _⟩ := rdEnd_X (x := .normal) S2 0 rfl
    refine ⟨_, q1, .inl ⟨rfl, by omega, q2⟩⟩
end Go.Proofs.Ytodokclcffejfaa.Sh
