/- What was packed is got; what is got is packed the same. -/
import Derived.Test.YtodokclcffejfaaSzP10
set_option linter.unusedVariables false
set_option linter.unusedSimpArgs false
set_option maxRecDepth 100000
namespace Go.Proofs.Ytodokclcffejfaa.Sh
open Go Go.RowKit Go.Proofs.Ev

theorem ints_len (l : List Nat) : (ints l).length = l.length := by simp [ints]
theorem f6 {k : Nat} {h : AH} {v0 v2 : Value} {l bs : List Nat} (A : Words h v0 (ints l)) (B : Bytes h v2 (ints bs)) (hx : ∀ x ∈ l, x < 18446744073709551616) (hb : ∀ x ∈ bs, x < 256) (wd n : Int) :
    Tl (F6 (eInv env (k + 4000)) (k + 4000) v0 (.int .i64 wd) v2 (.int .i64 n) h) fun r => r.1 = .bool true := by
  unfold F6
  have hv : ∀ h', pLen Try.prog #[22] v0 h' = some (.int .i64 l.length) := fun h' => by have := A.len (h' := h'); simpa [ints] using this
  have hw : ∀ h', pLen Try.prog #[25] v2 h' = some (.int .i64 bs.length) := fun h' => by have := B.len (h' := h'); simpa [ints] using this
  repeat (with_reducible apply Tl.val; focus (simp only [bnd_some, bin_add, bin_sub, bin_mul, bin_lss, bin_leq, bin_gtr, bin_geq, bin_eql, bin_neq, un_not, un_neg, goInt, gd_tt, gd_ff, gd_tf, gd_ft, gd_sk, gd3_tt, gd3_ff, gd3_tf, gd3_ft, gd3_sk, Option.map_some, lt_some, pick_t, pick_f, Nat.zero_add, Bool.not_true, Bool.not_false, Bool.true_and, Bool.false_and, Bool.and_true, Bool.and_false, cond_true, cond_false, beq_self_eq_true, Int.reduceBEq, decide_true, decide_false, ld3, ld5, ld22, ld25, ld30, conv_int u30 u5, conv_int u5 u3, conv_int u5 u30, bin_eql_bool u4, bin_neq_bool u4, xor64u, and64u, or64u, or8, and8, ex0, ex1, lives_call] <;> with_reducible rfl))
  with_reducible refine Tl.brF ?_
  cases q1 : decide ((l.length : Int) > 100)
  case true =>
    repeat (with_reducible apply Tl.val; focus (simp only [bnd_some, bin_add, bin_sub, bin_mul, bin_lss, bin_leq, bin_gtr, bin_geq, bin_eql, bin_neq, un_not, un_neg, goInt, gd_tt, gd_ff, gd_tf, gd_ft, gd_sk, gd3_tt, gd3_ff, gd3_tf, gd3_ft, gd3_sk, Option.map_some, lt_some, pick_t, pick_f, Nat.zero_add, Bool.not_true, Bool.not_false, Bool.true_and, Bool.false_and, Bool.and_true, Bool.and_false, cond_true, cond_false, beq_self_eq_true, Int.reduceBEq, decide_true, decide_false, ld3, ld5, ld22, ld25, ld30, conv_int u30 u5, conv_int u5 u3, conv_int u5 u30, bin_eql_bool u4, bin_neq_bool u4, xor64u, and64u, or64u, or8, and8, ex0, ex1, hv, q1] <;> with_reducible rfl))
    with_reducible refine Tl.brT ?_
    exact ⟨_, rfl, rfl⟩
  cases q2 : decide ((bs.length : Int) > 100)
  case true =>
    repeat (with_reducible apply Tl.val; focus (simp only [bnd_some, bin_add, bin_sub, bin_mul, bin_lss, bin_leq, bin_gtr, bin_geq, bin_eql, bin_neq, un_not, un_neg, goInt, gd_tt, gd_ff, gd_tf, gd_ft, gd_sk, gd3_tt, gd3_ff, gd3_tf, gd3_ft, gd3_sk, Option.map_some, lt_some, pick_t, pick_f, Nat.zero_add, Bool.not_true, Bool.not_false, Bool.true_and, Bool.false_and, Bool.and_true, Bool.and_false, cond_true, cond_false, beq_self_eq_true, Int.reduceBEq, decide_true, decide_false, ld3, ld5, ld22, ld25, ld30, conv_int u30 u5, conv_int u5 u3, conv_int u5 u30, bin_eql_bool u4, bin_neq_bool u4, xor64u, and64u, or64u, or8, and8, ex0, ex1, hv, q1, hw, q2] <;> with_reducible rfl))
    with_reducible refine Tl.brT ?_
    exact ⟨_, rfl, rfl⟩
  cases q3 : decide (n > 1000)
  case true =>
    repeat (with_reducible apply Tl.val; focus (simp only [bnd_some, bin_add, bin_sub, bin_mul, bin_lss, bin_leq, bin_gtr, bin_geq, bin_eql, bin_neq, un_not, un_neg, goInt, gd_tt, gd_ff, gd_tf, gd_ft, gd_sk, gd3_tt, gd3_ff, gd3_tf, gd3_ft, gd3_sk, Option.map_some, lt_some, pick_t, pick_f, Nat.zero_add, Bool.not_true, Bool.not_false, Bool.true_and, Bool.false_and, Bool.and_true, Bool.and_false, cond_true, cond_false, beq_self_eq_true, Int.reduceBEq, decide_true, decide_false, ld3, ld5, ld22, ld25, ld30, conv_int u30 u5, conv_int u5 u3, conv_int u5 u30, bin_eql_bool u4, bin_neq_bool u4, xor64u, and64u, or64u, or8, and8, ex0, ex1, hv, q1, hw, q2, q3] <;> with_reducible rfl))
    with_reducible refine Tl.brT ?_
    exact ⟨_, rfl, rfl⟩
  have ll : l.length ≤ 100 := by simp at q1; omega
  have lb : bs.length ≤ 100 := by simp at q2; omega
  have ln : n ≤ 1000 := by simpa using q3
  have wid := f15c (k := k + 3998) A (by omega) hx (by omega)
  have w64 := width64 hx
  repeat (with_reducible apply Tl.val; focus (simp only [bnd_some, bin_add, bin_sub, bin_mul, bin_lss, bin_leq, bin_gtr, bin_geq, bin_eql, bin_neq, un_not, un_neg, goInt, gd_tt, gd_ff, gd_tf, gd_ft, gd_sk, gd3_tt, gd3_ff, gd3_tf, gd3_ft, gd3_sk, Option.map_some, lt_some, pick_t, pick_f, Nat.zero_add, Bool.not_true, Bool.not_false, Bool.true_and, Bool.false_and, Bool.and_true, Bool.and_false, cond_true, cond_false, beq_self_eq_true, Int.reduceBEq, decide_true, decide_false, ld3, ld5, ld22, ld25, ld30, conv_int u30 u5, conv_int u5 u3, conv_int u5 u30, bin_eql_bool u4, bin_neq_bool u4, xor64u, and64u, or64u, or8, and8, ex0, ex1, hv, q1, hw, q2, q3] <;> with_reducible rfl))
  with_reducible refine Tl.brF ?_
  repeat (with_reducible apply Tl.val; focus (simp only [bnd_some, bin_add, bin_sub, bin_mul, bin_lss, bin_leq, bin_gtr, bin_geq, bin_eql, bin_neq, un_not, un_neg, goInt, gd_tt, gd_ff, gd_tf, gd_ft, gd_sk, gd3_tt, gd3_ff, gd3_tf, gd3_ft, gd3_sk, Option.map_some, lt_some, pick_t, pick_f, Nat.zero_add, Bool.not_true, Bool.not_false, Bool.true_and, Bool.false_and, Bool.and_true, Bool.and_false, cond_true, cond_false, beq_self_eq_true, Int.reduceBEq, decide_true, decide_false, ld3, ld5, ld22, ld25, ld30, conv_int u30 u5, conv_int u5 u3, conv_int u5 u30, bin_eql_bool u4, bin_neq_bool u4, xor64u, and64u, or64u, or8, and8, ex0, ex1, wid] <;> with_reducible rfl))
  with_reducible refine Tl.bind (f10g (k := k + 3699) A (by omega) (by omega) hx (widthN l : Int)) ?_
  rintro ⟨r1, h1⟩ ⟨x, e1, g1, X⟩
  simp only at e1 g1 X
  have pe := putE_of (by omega) w64 (Nat.le_refl (widthN l))
  have pl : putL l (widthN l : Int) = putN (widthN l) l := by unfold putL; rw [if_pos pe]; simp
  rw [pe] at e1
  rw [pl] at X
  subst e1
  obtain ⟨s1, s2, s3⟩ := putN_spec (widthN l) l
  have XB : Bytes h1 x (ints (putN (widthN l) l)) := X.slV
  obtain ⟨t1, t2⟩ := there (l := l) (by omega) w64 (Nat.le_refl _)
  repeat (with_reducible apply Tl.val; focus (simp only [bnd_some, bin_add, bin_sub, bin_mul, bin_lss, bin_leq, bin_gtr, bin_geq, bin_eql, bin_neq, un_not, un_neg, goInt, gd_tt, gd_ff, gd_tf, gd_ft, gd_sk, gd3_tt, gd3_ff, gd3_tf, gd3_ft, gd3_sk, Option.map_some, lt_some, pick_t, pick_f, Nat.zero_add, Bool.not_true, Bool.not_false, Bool.true_and, Bool.false_and, Bool.and_true, Bool.and_false, cond_true, cond_false, beq_self_eq_true, Int.reduceBEq, decide_true, decide_false, ld3, ld5, ld22, ld25, ld30, conv_int u30 u5, conv_int u5 u3, conv_int u5 u30, bin_eql_bool u4, bin_neq_bool u4, xor64u, and64u, or64u, or8, and8, ex0, ex1, hv] <;> with_reducible rfl))
  have hm : l.length * widthN l ≤ 100 * 64 := Nat.mul_le_mul ll w64
  with_reducible refine Tl.bind (f13c (k := k + 3910) XB s3 (by omega) XB.kn.1 XB.kn.2 (l.length : Int) (widthN l : Int) (fun _ => by simp; omega)) ?_
  rintro ⟨r2, h2⟩ ⟨y, e2, g2, Y⟩
  simp only at e2 g2 Y
  rw [t1] at e2
  rw [t2] at Y
  subst e2
  have YW : Words h2 y (ints l) := Y.slV
  have A2 := A.grow (g1.trans g2)
  have same1 := f14c (k := k + 3999) YW A2 (by rw [ints_len]; omega) (by rw [ints_len]; omega)
  have siz := f16c (k := k + 3998) (n := l.length) (w := widthN l) (by omega) w64 h2
  have xl : ∀ h', pLen Try.prog #[25] x h' = some (.int .i64 (putN (widthN l) l).length) := fun h' => by have := XB.len (h' := h'); simpa [ints] using this
  have ne : (((putN (widthN l) l).length : Int) != (sizeN l.length (widthN l) : Int)) = false := by rw [s2]; simp [sizeN]
  have z0 : ((0 : Int) != 0) = false := rfl
  repeat (with_reducible apply Tl.val; focus (simp only [bnd_some, bin_add, bin_sub, bin_mul, bin_lss, bin_leq, bin_gtr, bin_geq, bin_eql, bin_neq, un_not, un_neg, goInt, gd_tt, gd_ff, gd_tf, gd_ft, gd_sk, gd3_tt, gd3_ff, gd3_tf, gd3_ft, gd3_sk, Option.map_some, lt_some, pick_t, pick_f, Nat.zero_add, Bool.not_true, Bool.not_false, Bool.true_and, Bool.false_and, Bool.and_true, Bool.and_false, cond_true, cond_false, beq_self_eq_true, Int.reduceBEq, decide_true, decide_false, ld3, ld5, ld22, ld25, ld30, conv_int u30 u5, conv_int u5 u3, conv_int u5 u30, bin_eql_bool u4, bin_neq_bool u4, xor64u, and64u, or64u, or8, and8, ex0, ex1, z0, same1, xl, hv, siz, ne] <;> with_reducible rfl))
  with_reducible refine Tl.brF ?_
  with_reducible refine Tl.bind (f10g (k := k + 3699) A2 (by omega) (by omega) hx wd) ?_
  rintro ⟨r3, h3⟩ ⟨z, e3, g3, Z⟩
  simp only at e3 g3 Z
  subst e3
  have iff := putE_iff (l := l) (by omega) wd
  have A3 := A2.grow g3
  have hne : ∀ b : Bool, (!(b == b)) = false := fun b => by cases b <;> rfl
  -- what comes behind
  have rest : ∀ (h4 : AH) (g4 : Grow h h4), Tl (bnd (eInv env (k + 4000) (.func 13) #[] #[v2, .int .i64 n, .int .i64 wd] h4) fun x111 =>
    bnd (pExtract x111.1 0) fun x112 =>
    bnd (pExtract x111.1 1) fun x113 =>
    bnd (pBin Try.prog Go.BinOp.neq 26 (Go.Operand.tmp 114) (Go.Operand.const (Go.Value.int Go.IntKind.i64 0)) x113 (Go.Value.int Go.IntKind.i64 0)) fun x115 =>
    brV x115
    (bnd (pLen Try.prog #[22] x112 x111.2) fun x117 =>
    bnd (pBin Try.prog Go.BinOp.eql 3 (Go.Operand.tmp 117) (Go.Operand.const (Go.Value.int Go.IntKind.i64 0)) x117 (Go.Value.int Go.IntKind.i64 0)) fun x118 =>
    some (x118, x111.2))
    (bnd (eInv env (k + 4000) (.func 10) #[] #[x112, .int .i64 wd] x111.2) fun x122 =>
    bnd (pExtract x122.1 0) fun x123 =>
    bnd (pExtract x122.1 1) fun x124 =>
    bnd (pBin Try.prog Go.BinOp.eql 26 (Go.Operand.tmp 125) (Go.Operand.const (Go.Value.int Go.IntKind.i64 0)) x124 (Go.Value.int Go.IntKind.i64 0)) fun x126 =>
    bnd (gd (some x126) true x122.2 (some (x123, x122.2))) fun x128 =>
    bnd (gd (some x126) true x128.2 (some (v2, x128.2))) fun x129 =>
    bnd (gd (some x126) true x129.2 (eInv env (k + 4000) (.func 12) #[] #[x128.1, x129.1] x129.2)) fun x130 =>
    bnd (pickV x126 x130.1 (Go.Value.bool false)) fun x131 =>
    bnd (gd (some x131) true x130.2 (some (x112, x130.2))) fun x133 =>
    bnd (gd (some x131) true x133.2 (lt (pLen Try.prog #[22] x133.1 x133.2) x133.2)) fun x134 =>
    bnd (gd (some x131) true x134.2 (some (.int .i64 n, x134.2))) fun x135 =>
    bnd (gd (some x131) true x135.2 (lt (pBin Try.prog Go.BinOp.eql 3 (Go.Operand.tmp 134) (Go.Operand.tmp 135) x134.1 x135.1) x135.2)) fun x136 =>
    bnd (pickV x131 x136.1 (Go.Value.bool false)) fun x137 =>
    bnd (gd (some x137) true x136.2 (some (x112, x136.2))) fun x139 =>
    bnd (gd (some x137) true x139.2 (eInv env (k + 4000) (.func 15) #[] #[x139.1] x139.2)) fun x140 =>
    bnd (gd (some x137) true x140.2 (some (.int .i64 wd, x140.2))) fun x141 =>
    bnd (gd (some x137) true x141.2 (lt (pBin Try.prog Go.BinOp.leq 3 (Go.Operand.tmp 140) (Go.Operand.tmp 141) x140.1 x141.1) x141.2)) fun x142 =>
    bnd (pickV x137 x142.1 (Go.Value.bool false)) fun x143 =>
    some (x143, x142.2))) (fun r : Value × AH => r.1 = .bool true) := by
    intro h4 g4
    have B4 : Bytes h4 v2 (ints bs) := SlV.grow B g4
    refine Tl.bind (f13c (k := k + 3910) B4 hb (by omega) B4.kn.1 B4.kn.2 n wd (fun _ => by omega)) ?_
    rintro ⟨r5, h5⟩ ⟨u, e5, g5, U⟩
    simp only at e5 g5 U
    subst e5
    have UW : Words h5 u (ints (getN bs n wd)) := U.slV
    by_cases q : checkE bs n wd = 0
    · obtain ⟨N, W, rfl, rfl, hN, hW, gl, gw, gp⟩ := back hb q
      have N1 : N ≤ 1000 := by omega
      have zq : (checkE bs (N : Int) (W : Int) != 0) = false := by simp [q]
      repeat (with_reducible apply Tl.val; focus (simp only [bnd_some, bin_add, bin_sub, bin_mul, bin_lss, bin_leq, bin_gtr, bin_geq, bin_eql, bin_neq, un_not, un_neg, goInt, gd_tt, gd_ff, gd_tf, gd_ft, gd_sk, gd3_tt, gd3_ff, gd3_tf, gd3_ft, gd3_sk, Option.map_some, lt_some, pick_t, pick_f, Nat.zero_add, Bool.not_true, Bool.not_false, Bool.true_and, Bool.false_and, Bool.and_true, Bool.and_false, cond_true, cond_false, beq_self_eq_true, Int.reduceBEq, decide_true, decide_false, ld3, ld5, ld22, ld25, ld30, conv_int u30 u5, conv_int u5 u3, conv_int u5 u30, bin_eql_bool u4, bin_neq_bool u4, xor64u, and64u, or64u, or8, and8, ex0, ex1, zq] <;> with_reducible rfl))
      with_reducible refine Tl.brF ?_
      with_reducible refine Tl.bind (f10g (k := k + 3699) UW (by omega) (by omega) getN_lt (W : Int)) ?_
      rintro ⟨r6, h6⟩ ⟨a, e6, g6, AA⟩
      simp only at e6 g6 AA
      have pe' := putE_of (l := getN bs (N : Int) (W : Int)) (by omega) hW gw
      have pl' : putL (getN bs (N : Int) (W : Int)) (W : Int) = bs := by
        unfold putL
        rw [if_pos pe']
        simp only [Int.toNat_natCast]
        exact gp
      rw [pe'] at e6
      rw [pl'] at AA
      subst e6
      have AB : Bytes h6 a (ints bs) := AA.slV
      have same2 := f12c (k := k + 3999) AB (SlV.grow B4 (g5.trans g6) : Bytes h6 v2 (ints bs)) (by rw [ints_len]; omega) (by rw [ints_len]; omega)
      have ul : ∀ h', pLen Try.prog #[22] u h' = some (.int .i64 N) := fun h' => by have := UW.len (h' := h'); rw [ints_len, gl] at this; exact this
      have wid2 := f15c (k := k + 3998) (UW.grow g6) (by omega) getN_lt (by omega)
      have en : ((N : Int) == (N : Int)) = true := by simp
      have ew : decide ((widthN (getN bs (N : Int) (W : Int)) : Int) ≤ (W : Int)) = true := by simp; omega
      repeat (with_reducible apply Tl.val; focus (simp only [bnd_some, bin_add, bin_sub, bin_mul, bin_lss, bin_leq, bin_gtr, bin_geq, bin_eql, bin_neq, un_not, un_neg, goInt, gd_tt, gd_ff, gd_tf, gd_ft, gd_sk, gd3_tt, gd3_ff, gd3_tf, gd3_ft, gd3_sk, Option.map_some, lt_some, pick_t, pick_f, Nat.zero_add, Bool.not_true, Bool.not_false, Bool.true_and, Bool.false_and, Bool.and_true, Bool.and_false, cond_true, cond_false, beq_self_eq_true, Int.reduceBEq, decide_true, decide_false, ld3, ld5, ld22, ld25, ld30, conv_int u30 u5, conv_int u5 u3, conv_int u5 u30, bin_eql_bool u4, bin_neq_bool u4, xor64u, and64u, or64u, or8, and8, ex0, ex1, same2, ul, en, wid2, ew] <;> with_reducible rfl))
      exact ⟨_, rfl, rfl⟩
    · have zq : (checkE bs n wd != 0) = true := by simp [q]
      have g0 : getN bs n wd = [] := by unfold getN; rw [if_neg q]
      rw [g0] at UW
      have ul : ∀ h', pLen Try.prog #[22] u h' = some (.int .i64 (0 : Nat)) := fun h' => UW.len
      have z00 : (((0 : Nat) : Int) == 0) = true := rfl
      repeat (with_reducible apply Tl.val; focus (simp only [bnd_some, bin_add, bin_sub, bin_mul, bin_lss, bin_leq, bin_gtr, bin_geq, bin_eql, bin_neq, un_not, un_neg, goInt, gd_tt, gd_ff, gd_tf, gd_ft, gd_sk, gd3_tt, gd3_ff, gd3_tf, gd3_ft, gd3_sk, Option.map_some, lt_some, pick_t, pick_f, Nat.zero_add, Bool.not_true, Bool.not_false, Bool.true_and, Bool.false_and, Bool.and_true, Bool.and_false, cond_true, cond_false, beq_self_eq_true, Int.reduceBEq, decide_true, decide_false, ld3, ld5, ld22, ld25, ld30, conv_int u30 u5, conv_int u5 u3, conv_int u5 u30, bin_eql_bool u4, bin_neq_bool u4, xor64u, and64u, or64u, or8, and8, ex0, ex1, zq] <;> with_reducible rfl))
      with_reducible refine Tl.brT ?_
      repeat (with_reducible apply Tl.val; focus (simp only [bnd_some, bin_add, bin_sub, bin_mul, bin_lss, bin_leq, bin_gtr, bin_geq, bin_eql, bin_neq, un_not, un_neg, goInt, gd_tt, gd_ff, gd_tf, gd_ft, gd_sk, gd3_tt, gd3_ff, gd3_tf, gd3_ft, gd3_sk, Option.map_some, lt_some, pick_t, pick_f, Nat.zero_add, Bool.not_true, Bool.not_false, Bool.true_and, Bool.false_and, Bool.and_true, Bool.and_false, cond_true, cond_false, beq_self_eq_true, Int.reduceBEq, decide_true, decide_false, ld3, ld5, ld22, ld25, ld30, conv_int u30 u5, conv_int u5 u3, conv_int u5 u30, bin_eql_bool u4, bin_neq_bool u4, xor64u, and64u, or64u, or8, and8, ex0, ex1, ul, z00] <;> with_reducible rfl))
      exact ⟨_, rfl, rfl⟩
  unfold F6_rlrrrrrrrrr
  cases c1 : decide (wd ≥ (widthN l : Int))
  · rw [c1] at iff
    simp only [Bool.false_and] at iff
    repeat (with_reducible apply Tl.val; focus (simp only [bnd_some, bin_add, bin_sub, bin_mul, bin_lss, bin_leq, bin_gtr, bin_geq, bin_eql, bin_neq, un_not, un_neg, goInt, gd_tt, gd_ff, gd_tf, gd_ft, gd_sk, gd3_tt, gd3_ff, gd3_tf, gd3_ft, gd3_sk, Option.map_some, lt_some, pick_t, pick_f, Nat.zero_add, Bool.not_true, Bool.not_false, Bool.true_and, Bool.false_and, Bool.and_true, Bool.and_false, cond_true, cond_false, beq_self_eq_true, Int.reduceBEq, decide_true, decide_false, ld3, ld5, ld22, ld25, ld30, conv_int u30 u5, conv_int u5 u3, conv_int u5 u30, bin_eql_bool u4, bin_neq_bool u4, xor64u, and64u, or64u, or8, and8, ex0, ex1, iff, c1, hne] <;> with_reducible rfl))
    with_reducible refine Tl.brF ?_
    repeat (with_reducible apply Tl.val; focus (simp only [bnd_some, bin_add, bin_sub, bin_mul, bin_lss, bin_leq, bin_gtr, bin_geq, bin_eql, bin_neq, un_not, un_neg, goInt, gd_tt, gd_ff, gd_tf, gd_ft, gd_sk, gd3_tt, gd3_ff, gd3_tf, gd3_ft, gd3_sk, Option.map_some, lt_some, pick_t, pick_f, Nat.zero_add, Bool.not_true, Bool.not_false, Bool.true_and, Bool.false_and, Bool.and_true, Bool.and_false, cond_true, cond_false, beq_self_eq_true, Int.reduceBEq, decide_true, decide_false, ld3, ld5, ld22, ld25, ld30, conv_int u30 u5, conv_int u5 u3, conv_int u5 u30, bin_eql_bool u4, bin_neq_bool u4, xor64u, and64u, or64u, or8, and8, ex0, ex1, iff] <;> with_reducible rfl))
    with_reducible refine Tl.brF ?_
    exact rest h3 ((g1.trans g2).trans g3)
  cases c2 : decide (wd ≤ 64)
  · rw [c1, c2] at iff
    simp only [Bool.and_false] at iff
    repeat (with_reducible apply Tl.val; focus (simp only [bnd_some, bin_add, bin_sub, bin_mul, bin_lss, bin_leq, bin_gtr, bin_geq, bin_eql, bin_neq, un_not, un_neg, goInt, gd_tt, gd_ff, gd_tf, gd_ft, gd_sk, gd3_tt, gd3_ff, gd3_tf, gd3_ft, gd3_sk, Option.map_some, lt_some, pick_t, pick_f, Nat.zero_add, Bool.not_true, Bool.not_false, Bool.true_and, Bool.false_and, Bool.and_true, Bool.and_false, cond_true, cond_false, beq_self_eq_true, Int.reduceBEq, decide_true, decide_false, ld3, ld5, ld22, ld25, ld30, conv_int u30 u5, conv_int u5 u3, conv_int u5 u30, bin_eql_bool u4, bin_neq_bool u4, xor64u, and64u, or64u, or8, and8, ex0, ex1, iff, c1, c2, hne] <;> with_reducible rfl))
    with_reducible refine Tl.brF ?_
    repeat (with_reducible apply Tl.val; focus (simp only [bnd_some, bin_add, bin_sub, bin_mul, bin_lss, bin_leq, bin_gtr, bin_geq, bin_eql, bin_neq, un_not, un_neg, goInt, gd_tt, gd_ff, gd_tf, gd_ft, gd_sk, gd3_tt, gd3_ff, gd3_tf, gd3_ft, gd3_sk, Option.map_some, lt_some, pick_t, pick_f, Nat.zero_add, Bool.not_true, Bool.not_false, Bool.true_and, Bool.false_and, Bool.and_true, Bool.and_false, cond_true, cond_false, beq_self_eq_true, Int.reduceBEq, decide_true, decide_false, ld3, ld5, ld22, ld25, ld30, conv_int u30 u5, conv_int u5 u3, conv_int u5 u30, bin_eql_bool u4, bin_neq_bool u4, xor64u, and64u, or64u, or8, and8, ex0, ex1, iff] <;> with_reducible rfl))
    with_reducible refine Tl.brF ?_
    exact rest h3 ((g1.trans g2).trans g3)
  rw [c1, c2] at iff
  simp only [Bool.and_self] at iff
  repeat (with_reducible apply Tl.val; focus (simp only [bnd_some, bin_add, bin_sub, bin_mul, bin_lss, bin_leq, bin_gtr, bin_geq, bin_eql, bin_neq, un_not, un_neg, goInt, gd_tt, gd_ff, gd_tf, gd_ft, gd_sk, gd3_tt, gd3_ff, gd3_tf, gd3_ft, gd3_sk, Option.map_some, lt_some, pick_t, pick_f, Nat.zero_add, Bool.not_true, Bool.not_false, Bool.true_and, Bool.false_and, Bool.and_true, Bool.and_false, cond_true, cond_false, beq_self_eq_true, Int.reduceBEq, decide_true, decide_false, ld3, ld5, ld22, ld25, ld30, conv_int u30 u5, conv_int u5 u3, conv_int u5 u30, bin_eql_bool u4, bin_neq_bool u4, xor64u, and64u, or64u, or8, and8, ex0, ex1, iff, c1, c2, hne] <;> with_reducible rfl))
  with_reducible refine Tl.brF ?_
  repeat (with_reducible apply Tl.val; focus (simp only [bnd_some, bin_add, bin_sub, bin_mul, bin_lss, bin_leq, bin_gtr, bin_geq, bin_eql, bin_neq, un_not, un_neg, goInt, gd_tt, gd_ff, gd_tf, gd_ft, gd_sk, gd3_tt, gd3_ff, gd3_tf, gd3_ft, gd3_sk, Option.map_some, lt_some, pick_t, pick_f, Nat.zero_add, Bool.not_true, Bool.not_false, Bool.true_and, Bool.false_and, Bool.and_true, Bool.and_false, cond_true, cond_false, beq_self_eq_true, Int.reduceBEq, decide_true, decide_false, ld3, ld5, ld22, ld25, ld30, conv_int u30 u5, conv_int u5 u3, conv_int u5 u30, bin_eql_bool u4, bin_neq_bool u4, xor64u, and64u, or64u, or8, and8, ex0, ex1, iff] <;> with_reducible rfl))
  with_reducible refine Tl.brT ?_
  have d1 : wd ≥ (widthN l : Int) := by simpa using c1
  have d2 : wd ≤ 64 := by simpa using c2
  obtain ⟨W, rfl⟩ := Int.eq_ofNat_of_zero_le (show 0 ≤ wd by omega)
  have iff0 : putE l (W : Int) = 0 := by simpa using iff
  have pl2 : putL l (W : Int) = putN W l := by unfold putL; rw [if_pos iff0]; simp
  rw [pl2] at Z
  have ZB : Bytes h3 z (ints (putN W l)) := Z.slV
  obtain ⟨p1, p2, p3⟩ := putN_spec W l
  obtain ⟨t3, t4⟩ := there (l := l) (W := W) (by omega) (by omega) (by omega)
  have hm2 : l.length * W ≤ 100 * 64 := Nat.mul_le_mul ll (by omega)
  repeat (with_reducible apply Tl.val; focus (simp only [bnd_some, bin_add, bin_sub, bin_mul, bin_lss, bin_leq, bin_gtr, bin_geq, bin_eql, bin_neq, un_not, un_neg, goInt, gd_tt, gd_ff, gd_tf, gd_ft, gd_sk, gd3_tt, gd3_ff, gd3_tf, gd3_ft, gd3_sk, Option.map_some, lt_some, pick_t, pick_f, Nat.zero_add, Bool.not_true, Bool.not_false, Bool.true_and, Bool.false_and, Bool.and_true, Bool.and_false, cond_true, cond_false, beq_self_eq_true, Int.reduceBEq, decide_true, decide_false, ld3, ld5, ld22, ld25, ld30, conv_int u30 u5, conv_int u5 u3, conv_int u5 u30, bin_eql_bool u4, bin_neq_bool u4, xor64u, and64u, or64u, or8, and8, ex0, ex1, hv] <;> with_reducible rfl))
  with_reducible refine Tl.bind (f13c (k := k + 3910) ZB p3 (by omega) ZB.kn.1 ZB.kn.2 (l.length : Int) (W : Int) (fun _ => by simp; omega)) ?_
  rintro ⟨r4, h4⟩ ⟨y4, e4, g4, Y4⟩
  simp only at e4 g4 Y4
  rw [t3] at e4
  rw [t4] at Y4
  subst e4
  have Y4W : Words h4 y4 (ints l) := Y4.slV
  have same3 := f14c (k := k + 3999) Y4W (A3.grow g4) (by rw [ints_len]; omega) (by rw [ints_len]; omega)
  repeat (with_reducible apply Tl.val; focus (simp only [bnd_some, bin_add, bin_sub, bin_mul, bin_lss, bin_leq, bin_gtr, bin_geq, bin_eql, bin_neq, un_not, un_neg, goInt, gd_tt, gd_ff, gd_tf, gd_ft, gd_sk, gd3_tt, gd3_ff, gd3_tf, gd3_ft, gd3_sk, Option.map_some, lt_some, pick_t, pick_f, Nat.zero_add, Bool.not_true, Bool.not_false, Bool.true_and, Bool.false_and, Bool.and_true, Bool.and_false, cond_true, cond_false, beq_self_eq_true, Int.reduceBEq, decide_true, decide_false, ld3, ld5, ld22, ld25, ld30, conv_int u30 u5, conv_int u5 u3, conv_int u5 u30, bin_eql_bool u4, bin_neq_bool u4, xor64u, and64u, or64u, or8, and8, ex0, ex1, z0, same3] <;> with_reducible rfl))
  with_reducible refine Tl.brF ?_
  exact rest h4 (((g1.trans g2).trans g3).trans g4)
end Go.Proofs.Ytodokclcffejfaa.Sh
