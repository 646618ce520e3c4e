/- What the functions of the packs' package come to: 'Each', 'Get', Same of words. -/
import Derived.Test.YtodokclcffejfaaSzP7
set_option linter.unusedVariables false
set_option linter.unusedSimpArgs false
set_option maxRecDepth 100000
namespace Go.Proofs.Ytodokclcffejfaa.Sh
open Go Go.RowKit Go.Proofs.Ev

/-- A number of the bytes. -/
def digit (w : Nat) (bs : List Nat) (i : Nat) : Nat := byN bs / 2 ^ (i * w) % 2 ^ w
theorem digs_snoc (w N n : Nat) : digs w N (n + 1) = digs w N n ++ [N / 2 ^ (n * w) % 2 ^ w] := by
  unfold digs
  rw [List.range_succ, List.map_append]
  rfl
theorem f29_loop {β : Type} {k : Nat} {Q : β → Prop} {yv bv : Value} {bs : List Nat} {b3 b5 n w : Nat} {I : Nat → AH → Prop} {J : AH → Prop}
    (hb : ∀ x ∈ bs, x < 256) (hw : w ≤ 64) (hn : n ≤ 65536) (hnw : n * w ≤ 8 * bs.length) (hbl : bs.length ≤ 2 ^ 40)
    (hI : ∀ i h, I i h → h.cell b3 0 = some bv ∧ h.cell b5 0 = some (.int .i64 (w : Int)) ∧ Bytes h bv (ints bs))
    (hr : ∀ i h, i < n → I i h → Tl (callV (eInv env (k + 80)) yv #[.int .i64 (i : Int), .int .u64 (digit w bs i : Int)] h) fun r => (r.1 = .bool true ∧ I (i + 1) r.2) ∨ (r.1 = .bool false ∧ J r.2))
    {ke0 kr : Value → Value → Value → Value → Value → Value → AH → Option β} (m : Nat) :
    ∀ {i j : Nat} {h : AH}, i + m = n → m < j → I i h → (∀ y12 y h', I n h' → Tl (ke0 yv (pt b3) (pt b5) (.int .i64 (n : Int)) y12 y h') Q) → (∀ y12 y h', J h' → Tl (kr yv (pt b3) (pt b5) (.int .i64 (n : Int)) y12 y h') Q) →
      Tl (F29_lrr (eInv env (k + 80)) (k + 80) j yv (pt b3) (pt b5) (.int .i64 (n : Int)) (.int .i64 (i : Int)) h ke0 kr) Q := by
  induction m with
  | zero =>
    intro i j h hi hj A hk1 hk2
    obtain ⟨j, rfl⟩ : ∃ q, j = q + 1 := ⟨j - 1, by omega⟩
    simp only [F29_lrr]
    have e : decide ((i : Int) < (n : Int)) = false := by simp; omega
    repeat (with_reducible apply Tl.val; focus (simp only [bnd_some, bin_add, bin_sub, bin_mul, bin_lss, bin_leq, bin_gtr, bin_geq, bin_eql, bin_neq, un_not, un_neg, goInt, gd_tt, gd_ff, gd_tf, gd_ft, gd_sk, gd3_tt, gd3_ff, gd3_tf, gd3_ft, gd3_sk, Option.map_some, lt_some, pick_t, pick_f, Nat.zero_add, Bool.not_true, Bool.not_false, Bool.true_and, Bool.false_and, Bool.and_true, Bool.and_false, cond_true, cond_false, beq_self_eq_true, Int.reduceBEq, decide_true, decide_false, ld3, ld5, ld22, ld25, ld30, conv_int u30 u5, conv_int u5 u3, conv_int u5 u30, bin_eql_bool u4, bin_neq_bool u4, xor64u, and64u, or64u, or8, and8, ex0, ex1, e] <;> with_reducible rfl))
    with_reducible refine Tl.brF ?_
    have : i = n := by omega
    subst this
    exact hk1 _ _ _ A
  | succ m ih =>
    intro i j h hi hj A hk1 hk2
    obtain ⟨j, rfl⟩ : ∃ q, j = q + 1 := ⟨j - 1, by omega⟩
    obtain ⟨c3, c5, B⟩ := hI i h A
    have hiw : i * w + w ≤ n * w := by
      have : (i + 1) * w ≤ n * w := Nat.mul_le_mul_right _ (by omega)
      rw [Nat.succ_mul] at this
      exact this
    have hm : n * w ≤ 65536 * 64 := Nat.mul_le_mul hn hw
    simp only [F29_lrr]
    have e : decide ((i : Int) < (n : Int)) = true := by simp; omega
    have w1 : IntKind.i64.wrap ((i : Int) * (w : Int)) = ((i * w : Nat) : Int) := by
      have : (i : Int) * (w : Int) = ((i * w : Nat) : Int) := by simp
      rw [this, wrap_i64']; split <;> omega
    have w2 : IntKind.i64.wrap ((i : Int) + 1) = ((i + 1 : Nat) : Int) := by rw [wrap_i64']; split <;> omega
    have at_ := f30c (k := k + 79) B hb (frm := i * w) (w := w) hw (by omega) hbl (by omega)
    unfold pt
    repeat (with_reducible apply Tl.val; focus (simp only [bnd_some, bin_add, bin_sub, bin_mul, bin_lss, bin_leq, bin_gtr, bin_geq, bin_eql, bin_neq, un_not, un_neg, goInt, gd_tt, gd_ff, gd_tf, gd_ft, gd_sk, gd3_tt, gd3_ff, gd3_tf, gd3_ft, gd3_sk, Option.map_some, lt_some, pick_t, pick_f, Nat.zero_add, Bool.not_true, Bool.not_false, Bool.true_and, Bool.false_and, Bool.and_true, Bool.and_false, cond_true, cond_false, beq_self_eq_true, Int.reduceBEq, decide_true, decide_false, ld3, ld5, ld22, ld25, ld30, conv_int u30 u5, conv_int u5 u3, conv_int u5 u30, bin_eql_bool u4, bin_neq_bool u4, xor64u, and64u, or64u, or8, and8, ex0, ex1, e] <;> with_reducible rfl))
    with_reducible refine Tl.brT ?_
    repeat (with_reducible apply Tl.val; focus (simp only [bnd_some, bin_add, bin_sub, bin_mul, bin_lss, bin_leq, bin_gtr, bin_geq, bin_eql, bin_neq, un_not, un_neg, goInt, gd_tt, gd_ff, gd_tf, gd_ft, gd_sk, gd3_tt, gd3_ff, gd3_tf, gd3_ft, gd3_sk, Option.map_some, lt_some, pick_t, pick_f, Nat.zero_add, Bool.not_true, Bool.not_false, Bool.true_and, Bool.false_and, Bool.and_true, Bool.and_false, cond_true, cond_false, beq_self_eq_true, Int.reduceBEq, decide_true, decide_false, ld3, ld5, ld22, ld25, ld30, conv_int u30 u5, conv_int u5 u3, conv_int u5 u30, bin_eql_bool u4, bin_neq_bool u4, xor64u, and64u, or64u, or8, and8, ex0, ex1, c3, c5, w1, at_] <;> with_reducible rfl))
    refine Tl.bind (hr i h (by omega) A) fun r hr => ?_
    obtain ⟨v, h'⟩ := r
    simp only at hr
    rcases hr with ⟨rfl, A'⟩ | ⟨rfl, A'⟩
    · repeat (with_reducible apply Tl.val; focus (simp only [bnd_some, bin_add, bin_sub, bin_mul, bin_lss, bin_leq, bin_gtr, bin_geq, bin_eql, bin_neq, un_not, un_neg, goInt, gd_tt, gd_ff, gd_tf, gd_ft, gd_sk, gd3_tt, gd3_ff, gd3_tf, gd3_ft, gd3_sk, Option.map_some, lt_some, pick_t, pick_f, Nat.zero_add, Bool.not_true, Bool.not_false, Bool.true_and, Bool.false_and, Bool.and_true, Bool.and_false, cond_true, cond_false, beq_self_eq_true, Int.reduceBEq, decide_true, decide_false, ld3, ld5, ld22, ld25, ld30, conv_int u30 u5, conv_int u5 u3, conv_int u5 u30, bin_eql_bool u4, bin_neq_bool u4, xor64u, and64u, or64u, or8, and8, ex0, ex1] <;> with_reducible rfl))
      with_reducible refine Tl.brF ?_
      repeat (with_reducible apply Tl.val; focus (simp only [bnd_some, bin_add, bin_sub, bin_mul, bin_lss, bin_leq, bin_gtr, bin_geq, bin_eql, bin_neq, un_not, un_neg, goInt, gd_tt, gd_ff, gd_tf, gd_ft, gd_sk, gd3_tt, gd3_ff, gd3_tf, gd3_ft, gd3_sk, Option.map_some, lt_some, pick_t, pick_f, Nat.zero_add, Bool.not_true, Bool.not_false, Bool.true_and, Bool.false_and, Bool.and_true, Bool.and_false, cond_true, cond_false, beq_self_eq_true, Int.reduceBEq, decide_true, decide_false, ld3, ld5, ld22, ld25, ld30, conv_int u30 u5, conv_int u5 u3, conv_int u5 u30, bin_eql_bool u4, bin_neq_bool u4, xor64u, and64u, or64u, or8, and8, ex0, ex1, w2] <;> with_reducible rfl))
      exact ih (by omega) (by omega) A' hk1 hk2
    · repeat (with_reducible apply Tl.val; focus (simp only [bnd_some, bin_add, bin_sub, bin_mul, bin_lss, bin_leq, bin_gtr, bin_geq, bin_eql, bin_neq, un_not, un_neg, goInt, gd_tt, gd_ff, gd_tf, gd_ft, gd_sk, gd3_tt, gd3_ff, gd3_tf, gd3_ft, gd3_sk, Option.map_some, lt_some, pick_t, pick_f, Nat.zero_add, Bool.not_true, Bool.not_false, Bool.true_and, Bool.false_and, Bool.and_true, Bool.and_false, cond_true, cond_false, beq_self_eq_true, Int.reduceBEq, decide_true, decide_false, ld3, ld5, ld22, ld25, ld30, conv_int u30 u5, conv_int u5 u3, conv_int u5 u30, bin_eql_bool u4, bin_neq_bool u4, xor64u, and64u, or64u, or8, and8, ex0, ex1] <;> with_reducible rfl))
      with_reducible refine Tl.brT ?_
      exact hk2 _ _ _ A'
/-- What 'Each' gives. -/
def eachFn (b3 b4 b5 : Nat) : Value := .func (.func 29) #[] #[pt b3, pt b4, pt b5]
theorem f29c {k : Nat} {yv bv : Value} {bs : List Nat} {b3 b4 b5 : Nat} {n w : Int} {I : Nat → AH → Prop} {J : AH → Prop} {h : AH}
    (hb : ∀ x ∈ bs, x < 256) (hbl : bs.length ≤ 2 ^ 40) (hk : checkE bs n w = 0 → n.toNat < k)
    (hI : ∀ i h, I i h → h.cell b3 0 = some bv ∧ h.cell b4 0 = some (.int .i64 n) ∧ h.cell b5 0 = some (.int .i64 w) ∧ Bytes h bv (ints bs))
    (hr : checkE bs n w = 0 → ∀ i h, i < n.toNat → I i h → Tl (callV (eInv env (k + 80)) yv #[.int .i64 (i : Int), .int .u64 (digit w.toNat bs i : Int)] h) fun r => (r.1 = .bool true ∧ I (i + 1) r.2) ∨ (r.1 = .bool false ∧ J r.2)) (A : I 0 h) :
    Tl (eInv env (k + 81) (.func 29) #[pt b3, pt b4, pt b5] #[yv] h) fun r => (checkE bs n w ≠ 0 ∧ I 0 r.2) ∨ (checkE bs n w = 0 ∧ (I n.toNat r.2 ∨ J r.2)) := by
  rw [inv_cap (E := env) (f := 29) (by kernel_rfl), show ((#[yv] : Array Value) ++ #[pt b3, pt b4, pt b5]) = #[yv, pt b3, pt b4, pt b5] by simp, F29_eq]
  unfold F29
  obtain ⟨c3, c4, c5, B⟩ := hI 0 h A
  have ck := f25c (k := k) B hb hbl n w
  unfold pt
  by_cases q : checkE bs n w = 0
  · have ne : (checkE bs n w != 0) = false := by simp [q]
    repeat (with_reducible apply Tl.val; focus (simp only [bnd_some, bin_add, bin_sub, bin_mul, bin_lss, bin_leq, bin_gtr, bin_geq, bin_eql, bin_neq, un_not, un_neg, goInt, gd_tt, gd_ff, gd_tf, gd_ft, gd_sk, gd3_tt, gd3_ff, gd3_tf, gd3_ft, gd3_sk, Option.map_some, lt_some, pick_t, pick_f, Nat.zero_add, Bool.not_true, Bool.not_false, Bool.true_and, Bool.false_and, Bool.and_true, Bool.and_false, cond_true, cond_false, beq_self_eq_true, Int.reduceBEq, decide_true, decide_false, ld3, ld5, ld22, ld25, ld30, conv_int u30 u5, conv_int u5 u3, conv_int u5 u30, bin_eql_bool u4, bin_neq_bool u4, xor64u, and64u, or64u, or8, and8, ex0, ex1, c3, c4, c5, ck, ne] <;> with_reducible rfl))
    with_reducible refine Tl.brF ?_
    repeat (with_reducible apply Tl.val; focus (simp only [bnd_some, bin_add, bin_sub, bin_mul, bin_lss, bin_leq, bin_gtr, bin_geq, bin_eql, bin_neq, un_not, un_neg, goInt, gd_tt, gd_ff, gd_tf, gd_ft, gd_sk, gd3_tt, gd3_ff, gd3_tf, gd3_ft, gd3_sk, Option.map_some, lt_some, pick_t, pick_f, Nat.zero_add, Bool.not_true, Bool.not_false, Bool.true_and, Bool.false_and, Bool.and_true, Bool.and_false, cond_true, cond_false, beq_self_eq_true, Int.reduceBEq, decide_true, decide_false, ld3, ld5, ld22, ld25, ld30, conv_int u30 u5, conv_int u5 u3, conv_int u5 u30, bin_eql_bool u4, bin_neq_bool u4, xor64u, and64u, or64u, or8, and8, ex0, ex1, c4] <;> with_reducible rfl))
    have qm : mayB n w = true := by
      unfold checkE at q
      cases hm : mayB n w
      · rw [if_pos hm] at q; cases q
      · rfl
    obtain ⟨N, W, rfl, rfl, hN, hW⟩ := mayB_nat qm
    have hs : bs.length = sizeN N W := by
      unfold checkE at q
      rw [if_neg (by simp [qm])] at q
      by_cases hl : bs.length = sizeN N W
      · exact hl
      · rw [if_pos (by simpa using hl)] at q; cases q
    have hnw : N * W ≤ 8 * bs.length := by unfold sizeN at hs; omega
    have hk := hk q
    simp only [Int.toNat_natCast] at hr hk
    refine f29_loop (J := J) (I := I) hb hW hN hnw hbl (fun i h A => ⟨(hI i h A).1, (hI i h A).2.2⟩) (hr q) N (i := 0) (by omega) (by omega) A ?_ ?_
    · intro y12 y h' A'
      exact ⟨_, rfl, .inr ⟨q, .inl (by simpa using A')⟩⟩
    · intro y12 y h' A'
      exact ⟨_, rfl, .inr ⟨q, .inr A'⟩⟩
  · have ne : (checkE bs n w != 0) = true := by simp [q]
    repeat (with_reducible apply Tl.val; focus (simp only [bnd_some, bin_add, bin_sub, bin_mul, bin_lss, bin_leq, bin_gtr, bin_geq, bin_eql, bin_neq, un_not, un_neg, goInt, gd_tt, gd_ff, gd_tf, gd_ft, gd_sk, gd3_tt, gd3_ff, gd3_tf, gd3_ft, gd3_sk, Option.map_some, lt_some, pick_t, pick_f, Nat.zero_add, Bool.not_true, Bool.not_false, Bool.true_and, Bool.false_and, Bool.and_true, Bool.and_false, cond_true, cond_false, beq_self_eq_true, Int.reduceBEq, decide_true, decide_false, ld3, ld5, ld22, ld25, ld30, conv_int u30 u5, conv_int u5 u3, conv_int u5 u30, bin_eql_bool u4, bin_neq_bool u4, xor64u, and64u, or64u, or8, and8, ex0, ex1, c3, c4, c5, ck, ne] <;> with_reducible rfl))
    with_reducible refine Tl.brT ?_
    exact ⟨_, rfl, .inl ⟨q, A⟩⟩
theorem f22c {k : Nat} {n0 : Nat} {h0 h : AH} {L : List (Nat × AO)} {v : Value} {n w : Int} (S : Sta n0 h0 h L) (hk : kn v = true) (h1v : oneCell v = true) :
    Tl (eInv env (k + 1) (.func 22) #[] #[v, .int .i64 n, .int .i64 w] h) fun r => ∃ b3 b4 b5, r.1 = eachFn b3 b4 b5 ∧ Sta n0 h0 r.2 ((b5, .cells [.int .i64 w] 3 true) :: (b4, .cells [.int .i64 n] 3 true) :: (b3, .cells [v] 25 true) :: L) ∧ Grow h r.2 := by
  rw [F22_call]
  unfold F22
  have hcells : v.cells.toList = [v] := by
    cases v <;> first | rfl | (cases h1v; done)
  refine Tl.box S hk (by kernel_rfl) fun b3 h1 S1 g1 => ?_
  refine Tl.box S1 rfl (by kernel_rfl) fun b4 h2 S2 g2 => ?_
  refine Tl.box S2 rfl (by kernel_rfl) fun b5 h3 S3 g3 => ?_
  repeat (with_reducible apply Tl.val; focus (simp only [bnd_some, bin_add, bin_sub, bin_mul, bin_lss, bin_leq, bin_gtr, bin_geq, bin_eql, bin_neq, un_not, un_neg, goInt, gd_tt, gd_ff, gd_tf, gd_ft, gd_sk, gd3_tt, gd3_ff, gd3_tf, gd3_ft, gd3_sk, Option.map_some, lt_some, pick_t, pick_f, Nat.zero_add, Bool.not_true, Bool.not_false, Bool.true_and, Bool.false_and, Bool.and_true, Bool.and_false, cond_true, cond_false, beq_self_eq_true, Int.reduceBEq, decide_true, decide_false, ld3, ld5, ld22, ld25, ld30, conv_int u30 u5, conv_int u5 u3, conv_int u5 u30, bin_eql_bool u4, bin_neq_bool u4, xor64u, and64u, or64u, or8, and8, ex0, ex1] <;> with_reducible rfl))
  rw [hcells] at S3
  exact ⟨_, rfl, b3, b4, b5, rfl, S3, (g1.trans g2).trans g3⟩
end Go.Proofs.Ytodokclcffejfaa.Sh
