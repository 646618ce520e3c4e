/- 'OctetLengths' comes to true. -/
import Derived.Test.YtchfdnboojamnaaSzO1
set_option linter.unusedVariables false
set_option linter.unusedSimpArgs false
namespace Go.Proofs.Ytchfdnboojamnaa.Sh
open Go Go.RowKit Go.Proofs.Ev

theorem f3_loop {β : Type} {k : Nat} {Q : β → Prop} {x0 x1 x5 x6 x7 x8 : Value} {h : AH} {ke0 : Value → Value → Value → Value → Value → Value → Value → Value → Value → AH → Option β} (v : Nat) :
    ∀ {j : Nat} {c : Nat}, bl v < j → c + bl v ≤ 1000 → (∀ y10 y, Tl (ke0 x0 x1 x5 x6 x7 x8 (.int .i64 ((c + bl v : Nat) : Int)) y10 y h) Q) →
      Tl (F3_lrlrrrrr (eInv env k) k j x0 x1 x5 x6 x7 x8 (.int .i64 (c : Int)) (.int .u64 (v : Int)) h ke0) Q := by
  induction v using Nat.strongRecOn with
  | _ v ih =>
    intro j c hj hc hk
    obtain ⟨j, rfl⟩ : ∃ q, j = q + 1 := ⟨j - 1, by omega⟩
    simp only [F3_lrlrrrrr]
    by_cases hv : v = 0
    · have e : decide ((v : Int) > 0) = false := by simp; omega
      repeat (with_reducible apply Tl.val; focus (simp only [bnd_some, bin_add, bin_sub, bin_mul, bin_lss, bin_leq, bin_gtr, bin_geq, bin_eql, bin_neq, un_not, un_neg, goInt, gd_tt, gd_ff, gd_tf, gd_ft, gd_sk, gd3_tt, gd3_ff, gd3_tf, gd3_ft, gd3_sk, Option.map_some, lt_some, pick_t, pick_f, Nat.zero_add, Bool.not_true, Bool.not_false, Bool.true_and, Bool.false_and, Bool.and_true, Bool.and_false, cond_true, cond_false, beq_self_eq_true, Int.reduceBEq, decide_true, decide_false, ld2, ld3, ld5, ld23, ld25, ld47, fa47_0, conv_int u2 u23, conv_int u23 u2, conv_int u23 u5, conv_int u5 u23, bin_eql_bool u4, xor64u, xor64i, and64u, or64u, or8, and8, e] <;> with_reducible rfl))
      with_reducible refine Tl.brF ?_
      have := hk (.int .u64 (v : Int)) (.bool false)
      rw [hv, bl_zero, Nat.add_zero] at this
      rw [hv]
      exact this
    · have e : decide ((v : Int) > 0) = true := by simp; omega
      have hb := bl_pos (by omega : 0 < v)
      have w : IntKind.i64.wrap ((c : Int) + 1) = ((c + 1 : Nat) : Int) := by rw [wrap_i64']; split <;> omega
      have e1 : min (1 : Int).toNat 64 = 1 := by decide
      have s : Int.fdiv (v : Int) (2 ^ 1) = ((v / 2 : Nat) : Int) := by rw [fdiv_pow _ (by decide)]; omega
      repeat (with_reducible apply Tl.val; focus (simp only [bnd_some, bin_add, bin_sub, bin_mul, bin_lss, bin_leq, bin_gtr, bin_geq, bin_eql, bin_neq, un_not, un_neg, goInt, gd_tt, gd_ff, gd_tf, gd_ft, gd_sk, gd3_tt, gd3_ff, gd3_tf, gd3_ft, gd3_sk, Option.map_some, lt_some, pick_t, pick_f, Nat.zero_add, Bool.not_true, Bool.not_false, Bool.true_and, Bool.false_and, Bool.and_true, Bool.and_false, cond_true, cond_false, beq_self_eq_true, Int.reduceBEq, decide_true, decide_false, ld2, ld3, ld5, ld23, ld25, ld47, fa47_0, conv_int u2 u23, conv_int u23 u2, conv_int u23 u5, conv_int u5 u23, bin_eql_bool u4, xor64u, xor64i, and64u, or64u, or8, and8, e] <;> with_reducible rfl))
      with_reducible refine Tl.brT ?_
      repeat (with_reducible apply Tl.val; focus (simp only [bnd_some, bin_add, bin_sub, bin_mul, bin_lss, bin_leq, bin_gtr, bin_geq, bin_eql, bin_neq, un_not, un_neg, goInt, gd_tt, gd_ff, gd_tf, gd_ft, gd_sk, gd3_tt, gd3_ff, gd3_tf, gd3_ft, gd3_sk, Option.map_some, lt_some, pick_t, pick_f, Nat.zero_add, Bool.not_true, Bool.not_false, Bool.true_and, Bool.false_and, Bool.and_true, Bool.and_false, cond_true, cond_false, beq_self_eq_true, Int.reduceBEq, decide_true, decide_false, ld2, ld3, ld5, ld23, ld25, ld47, fa47_0, conv_int u2 u23, conv_int u23 u2, conv_int u23 u5, conv_int u5 u23, bin_eql_bool u4, xor64u, xor64i, and64u, or64u, or8, and8, w, shr64u (show (0 : Int) ≤ 1 by decide), e1, s] <;> with_reducible rfl))
      refine ih (v / 2) (by omega) (by omega) (by omega) fun y10 y => ?_
      have := hk y10 y
      rw [hb] at this
      rw [show c + 1 + bl (v / 2) = c + (bl (v / 2) + 1) by omega]
      exact this
theorem ob_nil (n0 : Nat) (h : AH) : OB n0 h (.slice none 0 0) [] := OwnB.nil _ _ _
theorem OB.len {n0 : Nat} {h h' : AH} {v : Value} {l : List Int} (S : OB n0 h v l) : pLen Try.prog #[25] v h' = some (.int .i64 l.length) := by
  have := SlV.len (OwnB.slV S) u25 (h' := h')
  simpa using this
theorem f3 {k : Nat} {a b : Int} (a0 : -9223372036854775808 ≤ a) (a1 : a < 9223372036854775808) (b0 : -9223372036854775808 ≤ b) (b1 : b < 9223372036854775808) (h : AH) :
    Tl (F3 (eInv env (k + 100)) (k + 100) (.int .i64 a) (.int .i64 b) h) fun r => r.1 = .bool true := by
  unfold F3
  obtain ⟨xa, xb⟩ := zigZ_range a0 a1
  obtain ⟨ya, yb⟩ := zigZ_range b0 b1
  obtain ⟨x, hx⟩ := Int.eq_ofNat_of_zero_le xa
  obtain ⟨y, hy⟩ := Int.eq_ofNat_of_zero_le ya
  have xl : x < 18446744073709551616 := by omega
  have yl : y < 18446744073709551616 := by omega
  have fa := f8c (k := k + 99) a0 a1
  have fb := f8c (k := k + 99) b0 b1
  rw [hx] at fa
  rw [hy] at fb
  repeat (with_reducible apply Tl.val; focus (simp only [bnd_some, bin_add, bin_sub, bin_mul, bin_lss, bin_leq, bin_gtr, bin_geq, bin_eql, bin_neq, un_not, un_neg, goInt, gd_tt, gd_ff, gd_tf, gd_ft, gd_sk, gd3_tt, gd3_ff, gd3_tf, gd3_ft, gd3_sk, Option.map_some, lt_some, pick_t, pick_f, Nat.zero_add, Bool.not_true, Bool.not_false, Bool.true_and, Bool.false_and, Bool.and_true, Bool.and_false, cond_true, cond_false, beq_self_eq_true, Int.reduceBEq, decide_true, decide_false, ld2, ld3, ld5, ld23, ld25, ld47, fa47_0, conv_int u2 u23, conv_int u23 u2, conv_int u23 u5, conv_int u5 u23, bin_eql_bool u4, xor64u, xor64i, and64u, or64u, or8, and8, lives_call] <;> with_reducible rfl))
  with_reducible refine Tl.brF ?_
  repeat (with_reducible apply Tl.val; focus (simp only [bnd_some, bin_add, bin_sub, bin_mul, bin_lss, bin_leq, bin_gtr, bin_geq, bin_eql, bin_neq, un_not, un_neg, goInt, gd_tt, gd_ff, gd_tf, gd_ft, gd_sk, gd3_tt, gd3_ff, gd3_tf, gd3_ft, gd3_sk, Option.map_some, lt_some, pick_t, pick_f, Nat.zero_add, Bool.not_true, Bool.not_false, Bool.true_and, Bool.false_and, Bool.and_true, Bool.and_false, cond_true, cond_false, beq_self_eq_true, Int.reduceBEq, decide_true, decide_false, ld2, ld3, ld5, ld23, ld25, ld47, fa47_0, conv_int u2 u23, conv_int u23 u2, conv_int u23 u5, conv_int u5 u23, bin_eql_bool u4, xor64u, xor64i, and64u, or64u, or8, and8, fa, fb] <;> with_reducible rfl))
  have px := pvar_le10 xl
  have py := pvar_le10 yl
  with_reducible refine Tl.seq (f9c (k := k + 99) (n0 := h.n) (l := []) x (ob_nil _ _) (Nat.le_refl _) (by omega) (by simp; omega)) ?_
  rintro ⟨p, h1⟩ ⟨A, g1⟩
  with_reducible refine Tl.seq (f9c (k := k + 99) (n0 := h.n) (l := []) y (ob_nil _ _) (GrowFrom.size g1) (by omega) (by simp; omega)) ?_
  rintro ⟨q, h2⟩ ⟨B, g2⟩
  rw [List.nil_append] at A B
  have lp : ∀ h', pLen Try.prog #[25] p h' = some (.int .i64 (pvar x).length) := fun h' => OB.len A
  have lq : ∀ h', pLen Try.prog #[25] q h' = some (.int .i64 (pvar y).length) := fun h' => OB.len B
  have hbx := bl_le 64 x (by simpa using xl)
  refine f3_loop (c := 0) x (by omega) (by omega) fun y10 yy => ?_
  rw [Nat.zero_add]
  have za : zagZ (x : Int) = a := by rw [← hx]; exact zag_zig a
  have zb : zagZ (y : Int) = b := by rw [← hy]; exact zag_zig b
  have ga := f10c (k := k + 99) (v := (x : Int)) (by omega) (by omega)
  have gb := f10c (k := k + 99) (v := (y : Int)) (by omega) (by omega)
  rw [za] at ga
  rw [zb] at gb
  have w6 : IntKind.i64.wrap ((bl x : Nat) + (6 : Int)) = ((bl x + 6 : Nat) : Int) := by rw [wrap_i64']; split <;> omega
  have q7 : IntKind.i64.wrap (((bl x + 6 : Nat) : Int).tdiv 7) = (((bl x + 6) / 7 : Nat) : Int) := by
    have : ((bl x + 6 : Nat) : Int).tdiv 7 = (((bl x + 6) / 7 : Nat) : Int) := by
      rw [Int.tdiv_eq_ediv_of_nonneg (by omega)]; omega
    rw [this, wrap_i64']; split <;> omega
  have hlen : (((pvar x).length : Int) == (if (1 : Int) < (((bl x + 6) / 7 : Nat) : Int) then (((bl x + 6) / 7 : Nat) : Int) else 1)) = true := by
    rw [pvar_len]
    simp only [beq_iff_eq]
    split <;> omega
  have hinj : (((x : Int) == (y : Int)) == (a == b)) = true := by
    by_cases hab : a = b
    · have : (x : Int) = (y : Int) := by rw [← hx, ← hy, hab]
      simp [hab, this]
    · have : ¬ (x : Int) = (y : Int) := fun q => hab (by rw [← za, ← zb, q])
      have t1 : ((x : Int) == (y : Int)) = false := by simpa using this
      have t2 : (a == b) = false := by simpa using hab
      rw [t1, t2]; rfl
  have hsign : (decide (a < 0) == ((x : Int).tmod 2 == 1)) = true := by
    have : (x : Int).tmod 2 = (x : Int) % 2 := Int.tmod_eq_emod_of_nonneg (by omega)
    rw [this]
    by_cases hn : a < 0
    · have t1 : (x : Int) % 2 = 1 := by rw [← hx]; unfold zigZ; rw [if_pos hn]; omega
      simp [hn, t1]
    · have t1 : (x : Int) % 2 = 0 := by rw [← hx]; unfold zigZ; rw [if_neg hn]; omega
      simp [hn, t1]
  cases hgt : decide ((x : Int) > (y : Int))
  · have hle : decide (((pvar x).length : Int) ≤ ((pvar y).length : Int)) = true := by
      have := pvar_mono (v := x) (w := y) (by simp at hgt; omega)
      simp; omega
    repeat (with_reducible apply Tl.val; focus (simp only [bnd_some, bin_add, bin_sub, bin_mul, bin_lss, bin_leq, bin_gtr, bin_geq, bin_eql, bin_neq, un_not, un_neg, goInt, gd_tt, gd_ff, gd_tf, gd_ft, gd_sk, gd3_tt, gd3_ff, gd3_tf, gd3_ft, gd3_sk, Option.map_some, lt_some, pick_t, pick_f, Nat.zero_add, Bool.not_true, Bool.not_false, Bool.true_and, Bool.false_and, Bool.and_true, Bool.and_false, cond_true, cond_false, beq_self_eq_true, Int.reduceBEq, decide_true, decide_false, ld2, ld3, ld5, ld23, ld25, ld47, fa47_0, conv_int u2 u23, conv_int u23 u2, conv_int u23 u5, conv_int u5 u23, bin_eql_bool u4, xor64u, xor64i, and64u, or64u, or8, and8, ga, gb, lp, lq, w6, bin_quo (show (7 : Int) ≠ 0 by decide), q7, bin_max, hlen, hgt, hle, hinj, bin_rem (show (2 : Int) ≠ 0 by decide), hsign] <;> with_reducible rfl))
    exact ⟨_, rfl, rfl⟩
  · repeat (with_reducible apply Tl.val; focus (simp only [bnd_some, bin_add, bin_sub, bin_mul, bin_lss, bin_leq, bin_gtr, bin_geq, bin_eql, bin_neq, un_not, un_neg, goInt, gd_tt, gd_ff, gd_tf, gd_ft, gd_sk, gd3_tt, gd3_ff, gd3_tf, gd3_ft, gd3_sk, Option.map_some, lt_some, pick_t, pick_f, Nat.zero_add, Bool.not_true, Bool.not_false, Bool.true_and, Bool.false_and, Bool.and_true, Bool.and_false, cond_true, cond_false, beq_self_eq_true, Int.reduceBEq, decide_true, decide_false, ld2, ld3, ld5, ld23, ld25, ld47, fa47_0, conv_int u2 u23, conv_int u23 u2, conv_int u23 u5, conv_int u5 u23, bin_eql_bool u4, xor64u, xor64i, and64u, or64u, or8, and8, ga, gb, lp, lq, w6, bin_quo (show (7 : Int) ≠ 0 by decide), q7, bin_max, hlen, hgt, hinj, bin_rem (show (2 : Int) ≠ 0 by decide), hsign] <;> with_reducible rfl))
    exact ⟨_, rfl, rfl⟩
end Go.Proofs.Ytchfdnboojamnaa.Sh
