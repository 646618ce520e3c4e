/- The document's answer: bits, Width, Size, Put. -/
import Derived.Test.YtodokclcffejfaaSzP14
import Derived.Test.YtodokclcffejfaaEv31
set_option linter.unusedVariables false
set_option linter.unusedSimpArgs false
set_option maxRecDepth 100000
namespace Go.Proofs.Ytodokclcffejfaa.Sh
open Go Go.RowKit Go.Proofs.Ev
theorem u46 : Try.prog.underlying 46 = some (.int .u64) := by kernel_rfl

theorem f27g {k : Nat} (n w : Int) (h : AH) : eInv env (k + 1) (.func 27) #[] #[.int .i64 n, .int .i64 w] h = some (.bool (mayB n w), h) := by
  have T : Tl (F27 (eInv env k) k (.int .i64 n) (.int .i64 w) h) fun r => r = (.bool (mayB n w), h) := by
    unfold F27 mayB
    cases e1 : decide (n ≥ 0)
    · repeat (with_reducible apply Tl.val; focus (simp only [bnd_some, bin_add, bin_sub, bin_mul, bin_lss, bin_leq, bin_gtr, bin_geq, bin_eql, bin_neq, un_not, un_neg, goInt, gd_tt, gd_ff, gd_tf, gd_ft, gd_sk, gd3_tt, gd3_ff, gd3_tf, gd3_ft, gd3_sk, Option.map_some, lt_some, pick_t, pick_f, Nat.zero_add, Bool.not_true, Bool.not_false, Bool.true_and, Bool.false_and, Bool.and_true, Bool.and_false, cond_true, cond_false, beq_self_eq_true, Int.reduceBEq, decide_true, decide_false, ld3, ld4, ld5, ld22, ld25, ld30, conv_int u30 u5, conv_int u5 u3, conv_int u5 u30, conv_int u3 u46, bin_eql_bool u4, bin_neq_bool u4, xor64u, and64u, or64u, or8, and8, ex0, ex1, e1] <;> with_reducible rfl))
      exact ⟨_, rfl, rfl⟩
    cases e2 : decide (n ≤ 65536)
    · repeat (with_reducible apply Tl.val; focus (simp only [bnd_some, bin_add, bin_sub, bin_mul, bin_lss, bin_leq, bin_gtr, bin_geq, bin_eql, bin_neq, un_not, un_neg, goInt, gd_tt, gd_ff, gd_tf, gd_ft, gd_sk, gd3_tt, gd3_ff, gd3_tf, gd3_ft, gd3_sk, Option.map_some, lt_some, pick_t, pick_f, Nat.zero_add, Bool.not_true, Bool.not_false, Bool.true_and, Bool.false_and, Bool.and_true, Bool.and_false, cond_true, cond_false, beq_self_eq_true, Int.reduceBEq, decide_true, decide_false, ld3, ld4, ld5, ld22, ld25, ld30, conv_int u30 u5, conv_int u5 u3, conv_int u5 u30, conv_int u3 u46, bin_eql_bool u4, bin_neq_bool u4, xor64u, and64u, or64u, or8, and8, ex0, ex1, e1, e2] <;> with_reducible rfl))
      exact ⟨_, rfl, rfl⟩
    cases e3 : decide (w ≥ 0)
    · repeat (with_reducible apply Tl.val; focus (simp only [bnd_some, bin_add, bin_sub, bin_mul, bin_lss, bin_leq, bin_gtr, bin_geq, bin_eql, bin_neq, un_not, un_neg, goInt, gd_tt, gd_ff, gd_tf, gd_ft, gd_sk, gd3_tt, gd3_ff, gd3_tf, gd3_ft, gd3_sk, Option.map_some, lt_some, pick_t, pick_f, Nat.zero_add, Bool.not_true, Bool.not_false, Bool.true_and, Bool.false_and, Bool.and_true, Bool.and_false, cond_true, cond_false, beq_self_eq_true, Int.reduceBEq, decide_true, decide_false, ld3, ld4, ld5, ld22, ld25, ld30, conv_int u30 u5, conv_int u5 u3, conv_int u5 u30, conv_int u3 u46, bin_eql_bool u4, bin_neq_bool u4, xor64u, and64u, or64u, or8, and8, ex0, ex1, e1, e2, e3] <;> with_reducible rfl))
      exact ⟨_, rfl, rfl⟩
    repeat (with_reducible apply Tl.val; focus (simp only [bnd_some, bin_add, bin_sub, bin_mul, bin_lss, bin_leq, bin_gtr, bin_geq, bin_eql, bin_neq, un_not, un_neg, goInt, gd_tt, gd_ff, gd_tf, gd_ft, gd_sk, gd3_tt, gd3_ff, gd3_tf, gd3_ft, gd3_sk, Option.map_some, lt_some, pick_t, pick_f, Nat.zero_add, Bool.not_true, Bool.not_false, Bool.true_and, Bool.false_and, Bool.and_true, Bool.and_false, cond_true, cond_false, beq_self_eq_true, Int.reduceBEq, decide_true, decide_false, ld3, ld4, ld5, ld22, ld25, ld30, conv_int u30 u5, conv_int u5 u3, conv_int u5 u30, conv_int u3 u46, bin_eql_bool u4, bin_neq_bool u4, xor64u, and64u, or64u, or8, and8, ex0, ex1, e1, e2, e3] <;> with_reducible rfl))
    exact ⟨_, rfl, rfl⟩
  obtain ⟨r, h1, h2⟩ := T
  rw [F27_call, h1, h2]
theorem f28_loop {β : Type} {k : Nat} {Q : β → Prop} {h : AH} {ke0 : Value → Value → Value → AH → Option β} (v : Nat) :
    ∀ {j c : Nat}, v < 18446744073709551616 → bl v < j → c + bl v ≤ 64 → (∀ y0 y, Tl (ke0 y0 (.int .i64 ((c + bl v : Nat) : Int)) y h) Q) → Tl (F28_llrr (eInv env k) k j (.int .u64 (v : Int)) (.int .i64 (c : Int)) h ke0) Q := by
  induction v using Nat.strongRecOn with
  | ind v ih =>
    intro j c hv hj hc hk
    obtain ⟨j, rfl⟩ : ∃ q, j = q + 1 := ⟨j - 1, by omega⟩
    simp only [F28_llrr]
    by_cases q : v = 0
    · subst q
      have e : decide (((0 : Nat) : Int) > 0) = false := by decide
      repeat (with_reducible apply Tl.val; focus (simp only [bnd_some, bin_add, bin_sub, bin_mul, bin_lss, bin_leq, bin_gtr, bin_geq, bin_eql, bin_neq, un_not, un_neg, goInt, gd_tt, gd_ff, gd_tf, gd_ft, gd_sk, gd3_tt, gd3_ff, gd3_tf, gd3_ft, gd3_sk, Option.map_some, lt_some, pick_t, pick_f, Nat.zero_add, Bool.not_true, Bool.not_false, Bool.true_and, Bool.false_and, Bool.and_true, Bool.and_false, cond_true, cond_false, beq_self_eq_true, Int.reduceBEq, decide_true, decide_false, ld3, ld4, ld5, ld22, ld25, ld30, conv_int u30 u5, conv_int u5 u3, conv_int u5 u30, conv_int u3 u46, bin_eql_bool u4, bin_neq_bool u4, xor64u, and64u, or64u, or8, and8, ex0, ex1, e] <;> with_reducible rfl))
      with_reducible refine Tl.brF ?_
      have := hk (.int .u64 ((0 : Nat) : Int)) (.bool false)
      rw [bl_zero] at this
      exact this
    · have e : decide ((v : Int) > 0) = true := by simp; omega
      have hb := bl_pos (v := v) (by omega)
      have w1 : IntKind.i64.wrap ((c : Int) + 1) = ((c + 1 : Nat) : Int) := by rw [wrap_i64']; split <;> omega
      have e1 : min (1 : Int).toNat 64 = 1 := by decide
      have e2 : Int.fdiv (v : Int) (2 ^ 1) = ((v / 2 : Nat) : Int) := by rw [fdiv_pow _ (by decide)]; omega
      repeat (with_reducible apply Tl.val; focus (simp only [bnd_some, bin_add, bin_sub, bin_mul, bin_lss, bin_leq, bin_gtr, bin_geq, bin_eql, bin_neq, un_not, un_neg, goInt, gd_tt, gd_ff, gd_tf, gd_ft, gd_sk, gd3_tt, gd3_ff, gd3_tf, gd3_ft, gd3_sk, Option.map_some, lt_some, pick_t, pick_f, Nat.zero_add, Bool.not_true, Bool.not_false, Bool.true_and, Bool.false_and, Bool.and_true, Bool.and_false, cond_true, cond_false, beq_self_eq_true, Int.reduceBEq, decide_true, decide_false, ld3, ld4, ld5, ld22, ld25, ld30, conv_int u30 u5, conv_int u5 u3, conv_int u5 u30, conv_int u3 u46, bin_eql_bool u4, bin_neq_bool u4, xor64u, and64u, or64u, or8, and8, ex0, ex1, e] <;> with_reducible rfl))
      with_reducible refine Tl.brT ?_
      repeat (with_reducible apply Tl.val; focus (simp only [bnd_some, bin_add, bin_sub, bin_mul, bin_lss, bin_leq, bin_gtr, bin_geq, bin_eql, bin_neq, un_not, un_neg, goInt, gd_tt, gd_ff, gd_tf, gd_ft, gd_sk, gd3_tt, gd3_ff, gd3_tf, gd3_ft, gd3_sk, Option.map_some, lt_some, pick_t, pick_f, Nat.zero_add, Bool.not_true, Bool.not_false, Bool.true_and, Bool.false_and, Bool.and_true, Bool.and_false, cond_true, cond_false, beq_self_eq_true, Int.reduceBEq, decide_true, decide_false, ld3, ld4, ld5, ld22, ld25, ld30, conv_int u30 u5, conv_int u5 u3, conv_int u5 u30, conv_int u3 u46, bin_eql_bool u4, bin_neq_bool u4, xor64u, and64u, or64u, or8, and8, ex0, ex1, w1, shr64u (show (0 : Int) ≤ 1 by decide), e1, e2] <;> with_reducible rfl))
      refine ih (v / 2) (by omega) (by omega) (by omega) (by omega) fun y0 y => ?_
      rw [show c + 1 + bl (v / 2) = c + bl v by omega]
      exact hk y0 y
theorem f28c {k : Nat} (v : Nat) (hv : v < 18446744073709551616) (h : AH) : eInv env (k + 80) (.func 28) #[] #[.int .u64 (v : Int)] h = some (.int .i64 (bl v), h) := by
  have b64 : bl v ≤ 64 := bl_le 64 v (by rw [two64]; exact hv)
  have T : Tl (F28 (eInv env (k + 79)) (k + 79) (.int .u64 (v : Int)) h) fun r => r = (.int .i64 (bl v), h) := by
    unfold F28
    refine f28_loop (c := 0) v hv (by omega) (by omega) fun y0 y => ⟨_, rfl, ?_⟩
    simp
  obtain ⟨r, h1, h2⟩ := T
  rw [F28_call, h1, h2]
def maxB (l : List Nat) : Nat := l.foldl (fun a x => max a (bl x)) 0
theorem maxB_le : ∀ (l : List Nat) (a w : Nat), l.foldl (fun a x => max a (bl x)) a ≤ w ↔ a ≤ w ∧ ∀ x ∈ l, x < 2 ^ w := by
  intro l
  induction l with
  | nil => intro a w; simp
  | cons x l ih =>
    intro a w
    rw [List.foldl_cons, ih, Nat.max_le, bl_le_iff]
    simp only [List.mem_cons, forall_eq_or_imp]
    constructor
    · rintro ⟨⟨a, b⟩, c⟩; exact ⟨a, b, c⟩
    · rintro ⟨a, b, c⟩; exact ⟨⟨a, b⟩, c⟩
theorem maxB_width (l : List Nat) : maxB l = widthN l := by
  refine Nat.le_antisymm ?_ ?_
  · unfold maxB
    rw [maxB_le]
    exact ⟨Nat.zero_le _, (width_le l _).1 (Nat.le_refl _)⟩
  · rw [width_le]
    exact ((maxB_le l 0 _).1 (Nat.le_refl _)).2
theorem f20_loop {β : Type} {k : Nat} {Q : β → Prop} {h : AH} {v : Value} {l : List Nat} (A : Words h v (ints l)) (hl : l.length ≤ 2 ^ 40) (hx : ∀ x ∈ l, x < 18446744073709551616) {ke0 : Value → Value → Value → Value → AH → Option β} (n : Nat) :
    ∀ {i j : Nat}, i + n = l.length → n < j → (∀ y4 y, Tl (ke0 v (.int .i64 (maxB l : Int)) y4 y h) Q) → Tl (F20_lrlrr (eInv env (k + 80)) (k + 80) j v (.int .i64 (maxB (l.take i) : Int)) (.int .i64 i) h ke0) Q := by
  have hlen : ∀ h', pLen Try.prog #[22] v h' = some (.int .i64 l.length) := fun h' => by have := A.len (h' := h'); rw [ints_len] at this; exact this
  induction n with
  | zero =>
    intro i j hi hj hk
    obtain ⟨j, rfl⟩ : ∃ q, j = q + 1 := ⟨j - 1, by omega⟩
    simp only [F20_lrlrr]
    have e : decide ((i : Int) < (l.length : Int)) = false := by simp; omega
    repeat (with_reducible apply Tl.val; focus (simp only [bnd_some, bin_add, bin_sub, bin_mul, bin_lss, bin_leq, bin_gtr, bin_geq, bin_eql, bin_neq, un_not, un_neg, goInt, gd_tt, gd_ff, gd_tf, gd_ft, gd_sk, gd3_tt, gd3_ff, gd3_tf, gd3_ft, gd3_sk, Option.map_some, lt_some, pick_t, pick_f, Nat.zero_add, Bool.not_true, Bool.not_false, Bool.true_and, Bool.false_and, Bool.and_true, Bool.and_false, cond_true, cond_false, beq_self_eq_true, Int.reduceBEq, decide_true, decide_false, ld3, ld4, ld5, ld22, ld25, ld30, conv_int u30 u5, conv_int u5 u3, conv_int u5 u30, conv_int u3 u46, bin_eql_bool u4, bin_neq_bool u4, xor64u, and64u, or64u, or8, and8, ex0, ex1, hlen, e] <;> with_reducible rfl))
    with_reducible refine Tl.brF ?_
    rw [List.take_of_length_le (by omega)]
    exact hk _ _
  | succ n ih =>
    intro i j hi hj hk
    obtain ⟨j, rfl⟩ : ∃ q, j = q + 1 := ⟨j - 1, by omega⟩
    have hlt : i < l.length := by omega
    obtain ⟨c, hc⟩ : ∃ c, l[i]? = some c := ⟨_, List.getElem?_eq_getElem hlt⟩
    obtain ⟨b, o, hx1, h2⟩ := A.at_ (i := i) (c := (c : Int)) (by simp [ints, hc])
    have hcl := hx c (List.mem_of_getElem? hc)
    have bits := f28c (k := k) c hcl h
    simp only [F20_lrlrr]
    have e : decide ((i : Int) < (l.length : Int)) = true := by simp; omega
    have w1 : IntKind.i64.wrap ((i : Int) + 1) = ((i + 1 : Nat) : Int) := by rw [wrap_i64']; split <;> omega
    have mx : (if ((maxB (l.take i) : Nat) : Int) < (bl c : Int) then ((bl c : Nat) : Int) else (maxB (l.take i) : Int)) = (maxB (l.take (i + 1)) : Int) := by
      have ht : l.take (i + 1) = l.take i ++ [c] := by rw [List.take_add_one, hc]; rfl
      rw [ht]
      unfold maxB
      rw [List.foldl_append]
      simp only [List.foldl_cons, List.foldl_nil]
      split <;> omega
    repeat (with_reducible apply Tl.val; focus (simp only [bnd_some, bin_add, bin_sub, bin_mul, bin_lss, bin_leq, bin_gtr, bin_geq, bin_eql, bin_neq, un_not, un_neg, goInt, gd_tt, gd_ff, gd_tf, gd_ft, gd_sk, gd3_tt, gd3_ff, gd3_tf, gd3_ft, gd3_sk, Option.map_some, lt_some, pick_t, pick_f, Nat.zero_add, Bool.not_true, Bool.not_false, Bool.true_and, Bool.false_and, Bool.and_true, Bool.and_false, cond_true, cond_false, beq_self_eq_true, Int.reduceBEq, decide_true, decide_false, ld3, ld4, ld5, ld22, ld25, ld30, conv_int u30 u5, conv_int u5 u3, conv_int u5 u30, conv_int u3 u46, bin_eql_bool u4, bin_neq_bool u4, xor64u, and64u, or64u, or8, and8, ex0, ex1, hlen, e] <;> with_reducible rfl))
    with_reducible refine Tl.brT ?_
    repeat (with_reducible apply Tl.val; focus (simp only [bnd_some, bin_add, bin_sub, bin_mul, bin_lss, bin_leq, bin_gtr, bin_geq, bin_eql, bin_neq, un_not, un_neg, goInt, gd_tt, gd_ff, gd_tf, gd_ft, gd_sk, gd3_tt, gd3_ff, gd3_tf, gd3_ft, gd3_sk, Option.map_some, lt_some, pick_t, pick_f, Nat.zero_add, Bool.not_true, Bool.not_false, Bool.true_and, Bool.false_and, Bool.and_true, Bool.and_false, cond_true, cond_false, beq_self_eq_true, Int.reduceBEq, decide_true, decide_false, ld3, ld4, ld5, ld22, ld25, ld30, conv_int u30 u5, conv_int u5 u3, conv_int u5 u30, conv_int u3 u46, bin_eql_bool u4, bin_neq_bool u4, xor64u, and64u, or64u, or8, and8, ex0, ex1, hx1, h2, bits, bin_max, mx, w1] <;> with_reducible rfl))
    exact ih (by omega) (by omega) hk
theorem f20c {k : Nat} {h : AH} {v : Value} {l : List Nat} (A : Words h v (ints l)) (hl : l.length ≤ 2 ^ 40) (hx : ∀ x ∈ l, x < 18446744073709551616) (hk : l.length < k) : eInv env (k + 81) (.func 20) #[] #[v] h = some (.int .i64 (widthN l), h) := by
  have T : Tl (F20 (eInv env (k + 80)) (k + 80) v h) fun r => r = (.int .i64 (widthN l), h) := by
    unfold F20
    refine f20_loop A hl hx l.length (i := 0) (by omega) (by omega) fun y4 y => ⟨_, rfl, ?_⟩
    rw [maxB_width]
  obtain ⟨r, h1, h2⟩ := T
  rw [F20_call, h1, h2]
def sizeE (n w : Int) : Int := if mayB n w = true then (sizeN n.toNat w.toNat : Int) else 0
theorem f21g {k : Nat} (n w : Int) (h : AH) : eInv env (k + 2) (.func 21) #[] #[.int .i64 n, .int .i64 w] h = some (.int .i64 (sizeE n w), h) := by
  have T : Tl (F21 (eInv env (k + 1)) (k + 1) (.int .i64 n) (.int .i64 w) h) fun r => r = (.int .i64 (sizeE n w), h) := by
    unfold F21 sizeE
    have may := f27g (k := k) n w h
    cases q : mayB n w
    · rw [q] at may
      repeat (with_reducible apply Tl.val; focus (simp only [bnd_some, bin_add, bin_sub, bin_mul, bin_lss, bin_leq, bin_gtr, bin_geq, bin_eql, bin_neq, un_not, un_neg, goInt, gd_tt, gd_ff, gd_tf, gd_ft, gd_sk, gd3_tt, gd3_ff, gd3_tf, gd3_ft, gd3_sk, Option.map_some, lt_some, pick_t, pick_f, Nat.zero_add, Bool.not_true, Bool.not_false, Bool.true_and, Bool.false_and, Bool.and_true, Bool.and_false, cond_true, cond_false, beq_self_eq_true, Int.reduceBEq, decide_true, decide_false, ld3, ld4, ld5, ld22, ld25, ld30, conv_int u30 u5, conv_int u5 u3, conv_int u5 u30, conv_int u3 u46, bin_eql_bool u4, bin_neq_bool u4, xor64u, and64u, or64u, or8, and8, ex0, ex1, may] <;> with_reducible rfl))
      with_reducible refine Tl.brT ?_
      exact ⟨_, rfl, rfl⟩
    obtain ⟨N, W, rfl, rfl, hN, hW⟩ := mayB_nat q
    rw [q] at may
    have hm : N * W ≤ 65536 * 64 := Nat.mul_le_mul hN hW
    have e1 : IntKind.i64.wrap ((N : Int) * (W : Int)) = ((N * W : Nat) : Int) := by
      have : (N : Int) * (W : Int) = ((N * W : Nat) : Int) := by simp
      rw [this, wrap_i64']; split <;> omega
    have e2 : IntKind.i64.wrap (((N * W : Nat) : Int) + 7) = ((N * W + 7 : Nat) : Int) := by rw [wrap_i64']; split <;> omega
    have e3 : IntKind.i64.wrap (((N * W + 7 : Nat) : Int).tdiv 8) = ((sizeN N W : Nat) : Int) := by
      have : ((N * W + 7 : Nat) : Int).tdiv 8 = ((sizeN N W : Nat) : Int) := by rw [Int.tdiv_eq_ediv_of_nonneg (by omega)]; unfold sizeN; omega
      rw [this, wrap_i64']; unfold sizeN; split <;> omega
    repeat (with_reducible apply Tl.val; focus (simp only [bnd_some, bin_add, bin_sub, bin_mul, bin_lss, bin_leq, bin_gtr, bin_geq, bin_eql, bin_neq, un_not, un_neg, goInt, gd_tt, gd_ff, gd_tf, gd_ft, gd_sk, gd3_tt, gd3_ff, gd3_tf, gd3_ft, gd3_sk, Option.map_some, lt_some, pick_t, pick_f, Nat.zero_add, Bool.not_true, Bool.not_false, Bool.true_and, Bool.false_and, Bool.and_true, Bool.and_false, cond_true, cond_false, beq_self_eq_true, Int.reduceBEq, decide_true, decide_false, ld3, ld4, ld5, ld22, ld25, ld30, conv_int u30 u5, conv_int u5 u3, conv_int u5 u30, conv_int u3 u46, bin_eql_bool u4, bin_neq_bool u4, xor64u, and64u, or64u, or8, and8, ex0, ex1, may] <;> with_reducible rfl))
    with_reducible refine Tl.brF ?_
    repeat (with_reducible apply Tl.val; focus (simp only [bnd_some, bin_add, bin_sub, bin_mul, bin_lss, bin_leq, bin_gtr, bin_geq, bin_eql, bin_neq, un_not, un_neg, goInt, gd_tt, gd_ff, gd_tf, gd_ft, gd_sk, gd3_tt, gd3_ff, gd3_tf, gd3_ft, gd3_sk, Option.map_some, lt_some, pick_t, pick_f, Nat.zero_add, Bool.not_true, Bool.not_false, Bool.true_and, Bool.false_and, Bool.and_true, Bool.and_false, cond_true, cond_false, beq_self_eq_true, Int.reduceBEq, decide_true, decide_false, ld3, ld4, ld5, ld22, ld25, ld30, conv_int u30 u5, conv_int u5 u3, conv_int u5 u30, conv_int u3 u46, bin_eql_bool u4, bin_neq_bool u4, xor64u, and64u, or64u, or8, and8, ex0, ex1, e1, e2, bin_quo (show (8 : Int) ≠ 0 by decide), e3] <;> with_reducible rfl))
    rw [if_pos rfl]
    simp only [Int.toNat_natCast]
    exact ⟨_, rfl, rfl⟩
  obtain ⟨r, h1, h2⟩ := T
  rw [F21_call, h1, h2]
theorem f16g {k : Nat} (n w : Int) (h : AH) : eInv env (k + 2) (.func 16) #[] #[.int .i64 n, .int .i64 w] h = some (.int .i64 (sizeE n w), h) := by
  cases q : mayB n w
  · have T : Tl (F16 (eInv env (k + 1)) (k + 1) (.int .i64 n) (.int .i64 w) h) fun r => r = (.int .i64 (sizeE n w), h) := by
      unfold F16 sizeE
      have may := f23g (k := k) n w h
      rw [q] at may ⊢
      repeat (with_reducible apply Tl.val; focus (simp only [bnd_some, bin_add, bin_sub, bin_mul, bin_lss, bin_leq, bin_gtr, bin_geq, bin_eql, bin_neq, un_not, un_neg, goInt, gd_tt, gd_ff, gd_tf, gd_ft, gd_sk, gd3_tt, gd3_ff, gd3_tf, gd3_ft, gd3_sk, Option.map_some, lt_some, pick_t, pick_f, Nat.zero_add, Bool.not_true, Bool.not_false, Bool.true_and, Bool.false_and, Bool.and_true, Bool.and_false, cond_true, cond_false, beq_self_eq_true, Int.reduceBEq, decide_true, decide_false, ld3, ld4, ld5, ld22, ld25, ld30, conv_int u30 u5, conv_int u5 u3, conv_int u5 u30, conv_int u3 u46, bin_eql_bool u4, bin_neq_bool u4, xor64u, and64u, or64u, or8, and8, ex0, ex1, may] <;> with_reducible rfl))
      with_reducible refine Tl.brT ?_
      exact ⟨_, rfl, rfl⟩
    obtain ⟨r, h1, h2⟩ := T
    rw [F16_call, h1, h2]
  · obtain ⟨N, W, rfl, rfl, hN, hW⟩ := mayB_nat q
    rw [f16c hN hW h]
    unfold sizeE
    rw [if_pos q]
    simp
end Go.Proofs.Ytodokclcffejfaa.Sh
