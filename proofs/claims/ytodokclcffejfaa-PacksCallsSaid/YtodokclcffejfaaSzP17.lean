/- The document's answer: Get. -/
import Derived.Test.YtodokclcffejfaaSzP16
set_option linter.unusedVariables false
set_option linter.unusedSimpArgs false
set_option maxRecDepth 100000
namespace Go.Proofs.Ytodokclcffejfaa.Sh
open Go Go.RowKit Go.Proofs.Ev

theorem fdiv8 (x r : Nat) (hr : r < 8) : Int.fdiv (x : Int) (2 ^ (min ((r : Int)).toNat 8)) = ((x / 2 ^ r : Nat) : Int) := by
  have e1 : min ((r : Int)).toNat 8 = r := by omega
  rw [e1, fdiv_pow _ (by exact_mod_cast Nat.zero_le _)]
  simp
/-- A bit of the bytes, as the code reads it. -/
structure BitAt (h : AH) (v : Value) (bs : List Nat) (p : Nat) : Prop where
  wq : IntKind.i64.wrap (((p : Nat) : Int).tdiv 8) = ((p / 8 : Nat) : Int)
  wr : ((p : Nat) : Int).tmod 8 = ((p % 8 : Nat) : Int)
  wc : IntKind.u64.wrap ((p % 8 : Nat) : Int) = ((p % 8 : Nat) : Int)
  at_ : ∃ (b o x : Nat), pIndexAddr Try.prog 25 v (.int .i64 ((p / 8 : Nat) : Int)) = some (.pointer (some ⟨b, o, none⟩)) ∧ h.cell b o = some (.int .u8 (x : Int)) ∧ (∀ (y z : Operand), pBin Try.prog .shr 5 y z (.int .u8 (x : Int)) (.int .u64 ((p % 8 : Nat) : Int)) = some (.int .u8 ((x / 2 ^ (p % 8) : Nat) : Int))) ∧
    ((x / 2 ^ (p % 8) : Nat) : Int).tmod 2 = ((byN bs / 2 ^ p % 2 : Nat) : Int)
theorem bit_at {h : AH} {v : Value} {bs : List Nat} (A : Bytes h v (ints bs)) (hb : ∀ x ∈ bs, x < 256) {p : Nat} (hp : p < 8 * bs.length) (hbl : bs.length ≤ 2 ^ 40) : BitAt h v bs p := by
  refine ⟨?_, ?_, ?_, ?_⟩
  · have : ((p : Nat) : Int).tdiv 8 = ((p / 8 : Nat) : Int) := by rw [Int.tdiv_eq_ediv_of_nonneg (by omega)]; omega
    rw [this, wrap_i64']; split <;> omega
  · rw [Int.tmod_eq_emod_of_nonneg (by omega)]; omega
  · rw [wrap_u64]; omega
  · have hlt : p / 8 < bs.length := by omega
    obtain ⟨x, hx⟩ : ∃ x, bs[p / 8]? = some x := ⟨_, List.getElem?_eq_getElem hlt⟩
    obtain ⟨b, o, hxx, hc⟩ := A.at_ (i := p / 8) (c := (x : Int)) (by simp [ints, hx])
    refine ⟨b, o, x, hxx, hc, fun y z => ?_, ?_⟩
    · rw [shr8 (by omega), fdiv8 x _ (Nat.mod_lt _ (by decide))]
    · rw [tmod2, byN_bit bs hb p x hx]
theorem f18_chk {β : Type} {k : Nat} {Q : β → Prop} {h : AH} {v x1 x2 : Value} {bs : List Nat} (A : Bytes h v (ints bs)) (hb : ∀ x ∈ bs, x < 256) (hbl : bs.length ≤ 2 ^ 30) {ke0 : Value → Value → Value → Value → Value → AH → Option β} {kr : Value → Value → AH → Option β} (m : Nat) :
    ∀ {p j : Nat}, p + m = 8 * bs.length → m < j → (byN bs / 2 ^ p % 2 ^ m = 0 → ∀ y8 y, Tl (ke0 v x1 x2 y8 y h) Q) → (byN bs / 2 ^ p % 2 ^ m ≠ 0 → Tl (kr (.slice none 0 0) (.int .i64 4) h) Q) →
      Tl (F18_lrlrrr (eInv env k) k j v x1 x2 (.int .i64 (p : Int)) h ke0 kr) Q := by
  have hv : ∀ h', pLen Try.prog #[25] v h' = some (.int .i64 bs.length) := fun h' => by have := A.len (h' := h'); rw [ints_len] at this; exact this
  have e8 : IntKind.i64.wrap (8 * ((bs.length : Nat) : Int)) = ((8 * bs.length : Nat) : Int) := by rw [wrap_i64']; split <;> omega
  induction m with
  | zero =>
    intro p j hp hj hk1 hk2
    obtain ⟨j, rfl⟩ : ∃ q, j = q + 1 := ⟨j - 1, by omega⟩
    simp only [F18_lrlrrr]
    have e : decide ((p : Int) < ((8 * bs.length : Nat) : Int)) = false := by simp only [decide_eq_false_iff_not]; omega
    repeat (with_reducible apply Tl.val; focus (simp only [bnd_some, bin_add, bin_sub, bin_mul, bin_lss, bin_leq, bin_gtr, bin_geq, bin_eql, bin_neq, un_not, un_neg, goInt, gd_tt, gd_ff, gd_tf, gd_ft, gd_sk, gd3_tt, gd3_ff, gd3_tf, gd3_ft, gd3_sk, Option.map_some, lt_some, pick_t, pick_f, Nat.zero_add, Bool.not_true, Bool.not_false, Bool.true_and, Bool.false_and, Bool.and_true, Bool.and_false, cond_true, cond_false, beq_self_eq_true, Int.reduceBEq, decide_true, decide_false, ld3, ld4, ld5, ld22, ld25, ld30, conv_int u30 u5, conv_int u5 u3, conv_int u5 u30, conv_int u3 u46, bin_eql_bool u4, bin_neq_bool u4, xor64u, and64u, or64u, or8, and8, ex0, ex1, hv, e8, e] <;> with_reducible rfl))
    with_reducible refine Tl.brF ?_
    exact hk1 (by rw [Nat.pow_zero, Nat.mod_one]) _ _
  | succ m ih =>
    intro p j hp hj hk1 hk2
    obtain ⟨j, rfl⟩ : ∃ q, j = q + 1 := ⟨j - 1, by omega⟩
    simp only [F18_lrlrrr]
    have e : decide ((p : Int) < ((8 * bs.length : Nat) : Int)) = true := by simp only [decide_eq_true_eq]; omega
    obtain ⟨wq, wr, wc, b, o, x, hx, hc, sr, rm⟩ := bit_at A hb (p := p) (by omega) (by omega)
    have w1 : IntKind.i64.wrap ((p : Int) + 1) = ((p + 1 : Nat) : Int) := by rw [wrap_i64']; split <;> omega
    have hsplit : byN bs / 2 ^ p % 2 ^ (m + 1) = byN bs / 2 ^ p % 2 + 2 * (byN bs / 2 ^ (p + 1) % 2 ^ m) := by
      rw [Nat.pow_succ', Nat.mod_mul, Nat.div_div_eq_div_mul, ← Nat.pow_succ]
    repeat (with_reducible apply Tl.val; focus (simp only [bnd_some, bin_add, bin_sub, bin_mul, bin_lss, bin_leq, bin_gtr, bin_geq, bin_eql, bin_neq, un_not, un_neg, goInt, gd_tt, gd_ff, gd_tf, gd_ft, gd_sk, gd3_tt, gd3_ff, gd3_tf, gd3_ft, gd3_sk, Option.map_some, lt_some, pick_t, pick_f, Nat.zero_add, Bool.not_true, Bool.not_false, Bool.true_and, Bool.false_and, Bool.and_true, Bool.and_false, cond_true, cond_false, beq_self_eq_true, Int.reduceBEq, decide_true, decide_false, ld3, ld4, ld5, ld22, ld25, ld30, conv_int u30 u5, conv_int u5 u3, conv_int u5 u30, conv_int u3 u46, bin_eql_bool u4, bin_neq_bool u4, xor64u, and64u, or64u, or8, and8, ex0, ex1, hv, e8, e] <;> with_reducible rfl))
    with_reducible refine Tl.brT ?_
    by_cases q : byN bs / 2 ^ p % 2 = 1
    · have e1 : (((byN bs / 2 ^ p % 2 : Nat) : Int) == 1) = true := by rw [q]; rfl
      repeat (with_reducible apply Tl.val; focus (simp only [bnd_some, bin_add, bin_sub, bin_mul, bin_lss, bin_leq, bin_gtr, bin_geq, bin_eql, bin_neq, un_not, un_neg, goInt, gd_tt, gd_ff, gd_tf, gd_ft, gd_sk, gd3_tt, gd3_ff, gd3_tf, gd3_ft, gd3_sk, Option.map_some, lt_some, pick_t, pick_f, Nat.zero_add, Bool.not_true, Bool.not_false, Bool.true_and, Bool.false_and, Bool.and_true, Bool.and_false, cond_true, cond_false, beq_self_eq_true, Int.reduceBEq, decide_true, decide_false, ld3, ld4, ld5, ld22, ld25, ld30, conv_int u30 u5, conv_int u5 u3, conv_int u5 u30, conv_int u3 u46, bin_eql_bool u4, bin_neq_bool u4, xor64u, and64u, or64u, or8, and8, ex0, ex1, bin_quo (show (8 : Int) ≠ 0 by decide), wq, hx, hc, bin_rem (show (8 : Int) ≠ 0 by decide), wr, wc, sr, bin_rem (show (2 : Int) ≠ 0 by decide), rm, e1] <;> with_reducible rfl))
      with_reducible refine Tl.brT ?_
      exact hk2 (by omega)
    · have q0 : byN bs / 2 ^ p % 2 = 0 := by have : byN bs / 2 ^ p % 2 < 2 := Nat.mod_lt _ (by decide); omega
      have e1 : (((byN bs / 2 ^ p % 2 : Nat) : Int) == 1) = false := by rw [q0]; rfl
      repeat (with_reducible apply Tl.val; focus (simp only [bnd_some, bin_add, bin_sub, bin_mul, bin_lss, bin_leq, bin_gtr, bin_geq, bin_eql, bin_neq, un_not, un_neg, goInt, gd_tt, gd_ff, gd_tf, gd_ft, gd_sk, gd3_tt, gd3_ff, gd3_tf, gd3_ft, gd3_sk, Option.map_some, lt_some, pick_t, pick_f, Nat.zero_add, Bool.not_true, Bool.not_false, Bool.true_and, Bool.false_and, Bool.and_true, Bool.and_false, cond_true, cond_false, beq_self_eq_true, Int.reduceBEq, decide_true, decide_false, ld3, ld4, ld5, ld22, ld25, ld30, conv_int u30 u5, conv_int u5 u3, conv_int u5 u30, conv_int u3 u46, bin_eql_bool u4, bin_neq_bool u4, xor64u, and64u, or64u, or8, and8, ex0, ex1, bin_quo (show (8 : Int) ≠ 0 by decide), wq, hx, hc, bin_rem (show (8 : Int) ≠ 0 by decide), wr, wc, sr, bin_rem (show (2 : Int) ≠ 0 by decide), rm, e1] <;> with_reducible rfl))
      with_reducible refine Tl.brF ?_
      repeat (with_reducible apply Tl.val; focus (simp only [bnd_some, bin_add, bin_sub, bin_mul, bin_lss, bin_leq, bin_gtr, bin_geq, bin_eql, bin_neq, un_not, un_neg, goInt, gd_tt, gd_ff, gd_tf, gd_ft, gd_sk, gd3_tt, gd3_ff, gd3_tf, gd3_ft, gd3_sk, Option.map_some, lt_some, pick_t, pick_f, Nat.zero_add, Bool.not_true, Bool.not_false, Bool.true_and, Bool.false_and, Bool.and_true, Bool.and_false, cond_true, cond_false, beq_self_eq_true, Int.reduceBEq, decide_true, decide_false, ld3, ld4, ld5, ld22, ld25, ld30, conv_int u30 u5, conv_int u5 u3, conv_int u5 u30, conv_int u3 u46, bin_eql_bool u4, bin_neq_bool u4, xor64u, and64u, or64u, or8, and8, ex0, ex1, w1] <;> with_reducible rfl))
      exact ih (by omega) (by omega) (fun hz => hk1 (by omega)) (fun hz => hk2 (by omega))
theorem f18_num {β : Type} {k : Nat} {Q : β → Prop} {h : AH} {v x1 x9 : Value} {bs : List Nat} (A : Bytes h v (ints bs)) (hb : ∀ x ∈ bs, x < 256) {i w : Nat} (hw : w ≤ 64) (hi : i ≤ 65536) (hfw : i * w + w ≤ 8 * bs.length) (hbl : bs.length ≤ 2 ^ 40) {ke4 : Value → Value → Value → Value → Value → Value → Value → Value → AH → Option β} (n : Nat) :
    ∀ {c j : Nat}, c + n = w → n < j → (∀ y12 y, Tl (ke4 v x1 (.int .i64 (w : Int)) x9 (.int .i64 (i : Int)) (.int .u64 (digit w bs i : Int)) y12 y h) Q) →
      Tl (F18_lrlrllrllrlrrrrr (eInv env k) k j v x1 (.int .i64 (w : Int)) x9 (.int .i64 (i : Int)) (.int .u64 ((byN bs / 2 ^ (i * w) % 2 ^ c : Nat) : Int)) (.int .i64 (c : Int)) h ke4) Q := by
  have hm : i * w ≤ 65536 * 64 := Nat.mul_le_mul hi hw
  induction n with
  | zero =>
    intro c j hc hj hk
    obtain ⟨j, rfl⟩ : ∃ q, j = q + 1 := ⟨j - 1, by omega⟩
    simp only [F18_lrlrllrllrlrrrrr]
    have e : decide ((c : Int) < (w : Int)) = false := by simp; omega
    repeat (with_reducible apply Tl.val; focus (simp only [bnd_some, bin_add, bin_sub, bin_mul, bin_lss, bin_leq, bin_gtr, bin_geq, bin_eql, bin_neq, un_not, un_neg, goInt, gd_tt, gd_ff, gd_tf, gd_ft, gd_sk, gd3_tt, gd3_ff, gd3_tf, gd3_ft, gd3_sk, Option.map_some, lt_some, pick_t, pick_f, Nat.zero_add, Bool.not_true, Bool.not_false, Bool.true_and, Bool.false_and, Bool.and_true, Bool.and_false, cond_true, cond_false, beq_self_eq_true, Int.reduceBEq, decide_true, decide_false, ld3, ld4, ld5, ld22, ld25, ld30, conv_int u30 u5, conv_int u5 u3, conv_int u5 u30, conv_int u3 u46, bin_eql_bool u4, bin_neq_bool u4, xor64u, and64u, or64u, or8, and8, ex0, ex1, e] <;> with_reducible rfl))
    with_reducible refine Tl.brF ?_
    have : c = w := by omega
    subst this
    exact hk _ _
  | succ n ih =>
    intro c j hc hj hk
    obtain ⟨j, rfl⟩ : ∃ q, j = q + 1 := ⟨j - 1, by omega⟩
    simp only [F18_lrlrllrllrlrrrrr]
    have e : decide ((c : Int) < (w : Int)) = true := by simp; omega
    obtain ⟨wq, wr, wc, b, o, x, hx, hcell, sr, rm⟩ := bit_at A hb (p := i * w + c) (by omega) hbl
    have wm : IntKind.i64.wrap ((i : Int) * (w : Int)) = ((i * w : Nat) : Int) := by
      have : (i : Int) * (w : Int) = ((i * w : Nat) : Int) := by simp
      rw [this, wrap_i64']; split <;> omega
    have wa : IntKind.i64.wrap (((i * w : Nat) : Int) + (c : Int)) = ((i * w + c : Nat) : Int) := by rw [wrap_i64']; split <;> omega
    have hb2 : byN bs / 2 ^ (i * w + c) % 2 < 2 := Nat.mod_lt _ (by decide)
    have wcv : IntKind.u64.wrap ((byN bs / 2 ^ (i * w + c) % 2 : Nat) : Int) = ((byN bs / 2 ^ (i * w + c) % 2 : Nat) : Int) := by rw [wrap_u64]; omega
    have wcc : IntKind.u64.wrap ((c : Nat) : Int) = ((c : Nat) : Int) := by rw [wrap_u64]; omega
    have hp : 2 ^ c ≤ 2 ^ 63 := Nat.pow_le_pow_right (by decide) (by omega)
    have h63 : (2 : Nat) ^ 63 = 9223372036854775808 := by decide
    have hmul : byN bs / 2 ^ (i * w + c) % 2 * 2 ^ c ≤ 1 * 2 ^ c := Nat.mul_le_mul_right _ (by omega)
    have sl : ∀ (y z : Operand), pBin Try.prog .shl 30 y z (.int .u64 ((byN bs / 2 ^ (i * w + c) % 2 : Nat) : Int)) (.int .u64 (c : Int)) = some (.int .u64 ((byN bs / 2 ^ (i * w + c) % 2 * 2 ^ c : Nat) : Int)) := fun y z => by
      rw [shl64u (by omega)]
      have e1 : min ((c : Int)).toNat 64 = c := by omega
      have e2 : ((byN bs / 2 ^ (i * w + c) % 2 : Nat) : Int) * 2 ^ c = ((byN bs / 2 ^ (i * w + c) % 2 * 2 ^ c : Nat) : Int) := by simp
      rw [e1, e2, wrap_u64]
      congr 3
      omega
    have hacc : byN bs / 2 ^ (i * w) % 2 ^ c < 2 ^ c := Nat.mod_lt _ (Nat.two_pow_pos c)
    have o1 := or_nat (byN bs / 2 ^ (i * w) % 2 ^ c) (byN bs / 2 ^ (i * w + c) % 2 * 2 ^ c) (by omega) (by omega)
    rw [or_disj _ _ _ hacc] at o1
    have hnext : byN bs / 2 ^ (i * w) % 2 ^ c + byN bs / 2 ^ (i * w + c) % 2 * 2 ^ c = byN bs / 2 ^ (i * w) % 2 ^ (c + 1) := by
      rw [Nat.pow_succ, Nat.mod_mul, Nat.div_div_eq_div_mul, ← Nat.pow_add, Nat.mul_comm (2 ^ c)]
    rw [hnext] at o1
    have w1 : IntKind.i64.wrap ((c : Int) + 1) = ((c + 1 : Nat) : Int) := by rw [wrap_i64']; split <;> omega
    repeat (with_reducible apply Tl.val; focus (simp only [bnd_some, bin_add, bin_sub, bin_mul, bin_lss, bin_leq, bin_gtr, bin_geq, bin_eql, bin_neq, un_not, un_neg, goInt, gd_tt, gd_ff, gd_tf, gd_ft, gd_sk, gd3_tt, gd3_ff, gd3_tf, gd3_ft, gd3_sk, Option.map_some, lt_some, pick_t, pick_f, Nat.zero_add, Bool.not_true, Bool.not_false, Bool.true_and, Bool.false_and, Bool.and_true, Bool.and_false, cond_true, cond_false, beq_self_eq_true, Int.reduceBEq, decide_true, decide_false, ld3, ld4, ld5, ld22, ld25, ld30, conv_int u30 u5, conv_int u5 u3, conv_int u5 u30, conv_int u3 u46, bin_eql_bool u4, bin_neq_bool u4, xor64u, and64u, or64u, or8, and8, ex0, ex1, e] <;> with_reducible rfl))
    with_reducible refine Tl.brT ?_
    repeat (with_reducible apply Tl.val; focus (simp only [bnd_some, bin_add, bin_sub, bin_mul, bin_lss, bin_leq, bin_gtr, bin_geq, bin_eql, bin_neq, un_not, un_neg, goInt, gd_tt, gd_ff, gd_tf, gd_ft, gd_sk, gd3_tt, gd3_ff, gd3_tf, gd3_ft, gd3_sk, Option.map_some, lt_some, pick_t, pick_f, Nat.zero_add, Bool.not_true, Bool.not_false, Bool.true_and, Bool.false_and, Bool.and_true, Bool.and_false, cond_true, cond_false, beq_self_eq_true, Int.reduceBEq, decide_true, decide_false, ld3, ld4, ld5, ld22, ld25, ld30, conv_int u30 u5, conv_int u5 u3, conv_int u5 u30, conv_int u3 u46, bin_eql_bool u4, bin_neq_bool u4, xor64u, and64u, or64u, or8, and8, ex0, ex1, wm, wa, bin_quo (show (8 : Int) ≠ 0 by decide), wq, hx, hcell, bin_rem (show (8 : Int) ≠ 0 by decide), wr, wc, sr, bin_rem (show (2 : Int) ≠ 0 by decide), rm, wcv, wcc, sl, o1, w1] <;> with_reducible rfl))
    exact ih (by omega) (by omega) hk
theorem f18_out {β : Type} {k : Nat} {Q : β → Prop} {h0 : AH} {v : Value} {bs : List Nat} {N w : Nat} (A : Bytes h0 v (ints bs)) (hb : ∀ x ∈ bs, x < 256) (hw : w ≤ 64) (hN : N ≤ 65536) (hfw : N * w ≤ 8 * bs.length) (hbl : bs.length ≤ 2 ^ 40) (hk0 : 65 < k) {ke2 : Value → Value → Value → Value → Value → Value → AH → Option β} (n : Nat) :
    ∀ {i j : Nat} {h : AH} {x9 : Value}, i + n = N → n < j → Grow h0 h → OwnB Try.prog h0.n h x9 1 ((ints (digs w (byN bs) i)).map wrow) →
      (∀ y9 y10 y h', Grow h0 h' → OwnB Try.prog h0.n h' y9 1 ((ints (digs w (byN bs) N)).map wrow) → Tl (ke2 v (.int .i64 (N : Int)) (.int .i64 (w : Int)) y9 y10 y h') Q) →
      Tl (F18_lrlrrrrr (eInv env k) k j v (.int .i64 (N : Int)) (.int .i64 (w : Int)) x9 (.int .i64 (i : Int)) h ke2) Q := by
  induction n with
  | zero =>
    intro i j h x9 hi hj g O hke
    obtain ⟨j, rfl⟩ : ∃ q, j = q + 1 := ⟨j - 1, by omega⟩
    simp only [F18_lrlrrrrr]
    have e : decide ((i : Int) < (N : Int)) = false := by simp; omega
    repeat (with_reducible apply Tl.val; focus (simp only [bnd_some, bin_add, bin_sub, bin_mul, bin_lss, bin_leq, bin_gtr, bin_geq, bin_eql, bin_neq, un_not, un_neg, goInt, gd_tt, gd_ff, gd_tf, gd_ft, gd_sk, gd3_tt, gd3_ff, gd3_tf, gd3_ft, gd3_sk, Option.map_some, lt_some, pick_t, pick_f, Nat.zero_add, Bool.not_true, Bool.not_false, Bool.true_and, Bool.false_and, Bool.and_true, Bool.and_false, cond_true, cond_false, beq_self_eq_true, Int.reduceBEq, decide_true, decide_false, ld3, ld4, ld5, ld22, ld25, ld30, conv_int u30 u5, conv_int u5 u3, conv_int u5 u30, conv_int u3 u46, bin_eql_bool u4, bin_neq_bool u4, xor64u, and64u, or64u, or8, and8, ex0, ex1, e] <;> with_reducible rfl))
    with_reducible refine Tl.brF ?_
    have : i = N := by omega
    subst this
    exact hke _ _ _ _ g O
  | succ n ih =>
    intro i j h x9 hi hj g O hke
    obtain ⟨j, rfl⟩ : ∃ q, j = q + 1 := ⟨j - 1, by omega⟩
    have hiw : i * w + w ≤ N * w := by
      have : (i + 1) * w ≤ N * w := Nat.mul_le_mul_right _ (by omega)
      rwa [Nat.succ_mul] at this
    simp only [F18_lrlrrrrr]
    have e : decide ((i : Int) < (N : Int)) = true := by simp; omega
    have w1 : IntKind.i64.wrap ((i : Int) + 1) = ((i + 1 : Nat) : Int) := by rw [wrap_i64']; split <;> omega
    have A' : Bytes h v (ints bs) := SlV.grow A g
    repeat (with_reducible apply Tl.val; focus (simp only [bnd_some, bin_add, bin_sub, bin_mul, bin_lss, bin_leq, bin_gtr, bin_geq, bin_eql, bin_neq, un_not, un_neg, goInt, gd_tt, gd_ff, gd_tf, gd_ft, gd_sk, gd3_tt, gd3_ff, gd3_tf, gd3_ft, gd3_sk, Option.map_some, lt_some, pick_t, pick_f, Nat.zero_add, Bool.not_true, Bool.not_false, Bool.true_and, Bool.false_and, Bool.and_true, Bool.and_false, cond_true, cond_false, beq_self_eq_true, Int.reduceBEq, decide_true, decide_false, ld3, ld4, ld5, ld22, ld25, ld30, conv_int u30 u5, conv_int u5 u3, conv_int u5 u30, conv_int u3 u46, bin_eql_bool u4, bin_neq_bool u4, xor64u, and64u, or64u, or8, and8, ex0, ex1, e] <;> with_reducible rfl))
    with_reducible refine Tl.brT ?_
    have e0 : ((0 : Int)) = ((byN bs / 2 ^ (i * w) % 2 ^ 0 : Nat) : Int) := by simp [Nat.mod_one]
    rw [show (Value.int IntKind.u64 0) = .int .u64 ((byN bs / 2 ^ (i * w) % 2 ^ 0 : Nat) : Int) by rw [← e0]]
    refine f18_num A' hb hw (by omega) (by omega) hbl w (c := 0) (by omega) (by omega) fun y12 y => ?_
    repeat (with_reducible apply Tl.val; focus (simp only [bnd_some, bin_add, bin_sub, bin_mul, bin_lss, bin_leq, bin_gtr, bin_geq, bin_eql, bin_neq, un_not, un_neg, goInt, gd_tt, gd_ff, gd_tf, gd_ft, gd_sk, gd3_tt, gd3_ff, gd3_tf, gd3_ft, gd3_sk, Option.map_some, lt_some, pick_t, pick_f, Nat.zero_add, Bool.not_true, Bool.not_false, Bool.true_and, Bool.false_and, Bool.and_true, Bool.and_false, cond_true, cond_false, beq_self_eq_true, Int.reduceBEq, decide_true, decide_false, ld3, ld4, ld5, ld22, ld25, ld30, conv_int u30 u5, conv_int u5 u3, conv_int u5 u30, conv_int u3 u46, bin_eql_bool u4, bin_neq_bool u4, xor64u, and64u, or64u, or8, and8, ex0, ex1, bs22] <;> with_reducible rfl))
    have B1 := slV_one (P := Try.prog) (h := h) (e := 30) (n := 1) (r := [.int .u64 (digit w bs i : Int)]) rfl
    obtain ⟨o3, h4, p1, p2, p3⟩ := append_ownB app22 (O.grow (Grow.alloc h (.cells [.int .u64 (digit w bs i : Int)] 30 true))) B1 (by rw [List.length_map, ints_len, digs_len]; simp; omega) rfl (Nat.le_trans g.1 (Grow.alloc h _).1)
    with_reducible refine Tl.val p1 ?_
    repeat (with_reducible apply Tl.val; focus (simp only [bnd_some, bin_add, bin_sub, bin_mul, bin_lss, bin_leq, bin_gtr, bin_geq, bin_eql, bin_neq, un_not, un_neg, goInt, gd_tt, gd_ff, gd_tf, gd_ft, gd_sk, gd3_tt, gd3_ff, gd3_tf, gd3_ft, gd3_sk, Option.map_some, lt_some, pick_t, pick_f, Nat.zero_add, Bool.not_true, Bool.not_false, Bool.true_and, Bool.false_and, Bool.and_true, Bool.and_false, cond_true, cond_false, beq_self_eq_true, Int.reduceBEq, decide_true, decide_false, ld3, ld4, ld5, ld22, ld25, ld30, conv_int u30 u5, conv_int u5 u3, conv_int u5 u30, conv_int u3 u46, bin_eql_bool u4, bin_neq_bool u4, xor64u, and64u, or64u, or8, and8, ex0, ex1, w1] <;> with_reducible rfl))
    have e4 : ((ints (digs w (byN bs) i)).map wrow ++ [[Value.int IntKind.u64 (digit w bs i : Int)]]) = (ints (digs w (byN bs) (i + 1))).map wrow := by
      rw [digs_snoc, ints_append, List.map_append]
      rfl
    rw [e4] at p2
    exact ih (by omega) (by omega) ((g.trans (Grow.alloc h _)).trans' p3) p2 hke
theorem f18c {k : Nat} {h : AH} {v : Value} {bs : List Nat} (A : Bytes h v (ints bs)) (hb : ∀ x ∈ bs, x < 256) (hbl : bs.length ≤ 2 ^ 30) (n w : Int) (hkn : checkE bs n w = 0 → n.toNat < k) (hk8 : 8 * bs.length < k) :
    Tl (eInv env (k + 90) (.func 18) #[] #[v, .int .i64 n, .int .i64 w] h) fun r => ∃ o, r.1 = .tuple #[o, .int .i64 (checkE bs n w)] ∧ Grow h r.2 ∧ OwnB Try.prog h.n r.2 o 1 ((ints (getN bs n w)).map wrow) := by
  rw [F18_call]
  unfold F18
  have hv : ∀ h', pLen Try.prog #[25] v h' = some (.int .i64 bs.length) := fun h' => by have := A.len (h' := h'); rw [ints_len] at this; exact this
  have may := f27g (k := k + 88) n w h
  have none_ : ∀ (e : Int), checkE bs n w = e → e ≠ 0 → ∃ o, (Value.tuple #[.slice none 0 0, .int .i64 e] = .tuple #[o, .int .i64 (checkE bs n w)]) ∧ Grow h h ∧ OwnB Try.prog h.n h o 1 ((ints (getN bs n w)).map wrow) := by
    intro e he hne
    refine ⟨_, by rw [he], Grow.refl _, ?_⟩
    unfold getN
    rw [if_neg (by rw [he]; exact hne)]
    exact .inl ⟨rfl, rfl⟩
  cases q : mayB n w
  · rw [q] at may
    repeat (with_reducible apply Tl.val; focus (simp only [bnd_some, bin_add, bin_sub, bin_mul, bin_lss, bin_leq, bin_gtr, bin_geq, bin_eql, bin_neq, un_not, un_neg, goInt, gd_tt, gd_ff, gd_tf, gd_ft, gd_sk, gd3_tt, gd3_ff, gd3_tf, gd3_ft, gd3_sk, Option.map_some, lt_some, pick_t, pick_f, Nat.zero_add, Bool.not_true, Bool.not_false, Bool.true_and, Bool.false_and, Bool.and_true, Bool.and_false, cond_true, cond_false, beq_self_eq_true, Int.reduceBEq, decide_true, decide_false, ld3, ld4, ld5, ld22, ld25, ld30, conv_int u30 u5, conv_int u5 u3, conv_int u5 u30, conv_int u3 u46, bin_eql_bool u4, bin_neq_bool u4, xor64u, and64u, or64u, or8, and8, ex0, ex1, may] <;> with_reducible rfl))
    with_reducible refine Tl.brT ?_
    exact ⟨_, rfl, none_ 2 (by unfold checkE; rw [if_pos q]) (by decide)⟩
  obtain ⟨N, W, rfl, rfl, hN, hW⟩ := mayB_nat q
  rw [q] at may
  have siz := f21g (k := k + 87) (N : Int) (W : Int) h
  have hsz : sizeE (N : Int) (W : Int) = (sizeN N W : Int) := by
    unfold sizeE
    rw [if_pos q]
    simp
  rw [hsz] at siz
  have hm : N * W ≤ 65536 * 64 := Nat.mul_le_mul hN hW
  repeat (with_reducible apply Tl.val; focus (simp only [bnd_some, bin_add, bin_sub, bin_mul, bin_lss, bin_leq, bin_gtr, bin_geq, bin_eql, bin_neq, un_not, un_neg, goInt, gd_tt, gd_ff, gd_tf, gd_ft, gd_sk, gd3_tt, gd3_ff, gd3_tf, gd3_ft, gd3_sk, Option.map_some, lt_some, pick_t, pick_f, Nat.zero_add, Bool.not_true, Bool.not_false, Bool.true_and, Bool.false_and, Bool.and_true, Bool.and_false, cond_true, cond_false, beq_self_eq_true, Int.reduceBEq, decide_true, decide_false, ld3, ld4, ld5, ld22, ld25, ld30, conv_int u30 u5, conv_int u5 u3, conv_int u5 u30, conv_int u3 u46, bin_eql_bool u4, bin_neq_bool u4, xor64u, and64u, or64u, or8, and8, ex0, ex1, may] <;> with_reducible rfl))
  with_reducible refine Tl.brF ?_
  by_cases hl : bs.length = sizeN N W
  · have ne : (((bs.length : Nat) : Int) != ((sizeN N W : Nat) : Int)) = false := by rw [hl]; simp
    have e1 : IntKind.i64.wrap ((N : Int) * (W : Int)) = ((N * W : Nat) : Int) := by
      have : (N : Int) * (W : Int) = ((N * W : Nat) : Int) := by simp
      rw [this, wrap_i64']; split <;> omega
    have hs : 8 * sizeN N W ≤ N * W + 7 ∧ N * W ≤ 8 * sizeN N W := by unfold sizeN; omega
    repeat (with_reducible apply Tl.val; focus (simp only [bnd_some, bin_add, bin_sub, bin_mul, bin_lss, bin_leq, bin_gtr, bin_geq, bin_eql, bin_neq, un_not, un_neg, goInt, gd_tt, gd_ff, gd_tf, gd_ft, gd_sk, gd3_tt, gd3_ff, gd3_tf, gd3_ft, gd3_sk, Option.map_some, lt_some, pick_t, pick_f, Nat.zero_add, Bool.not_true, Bool.not_false, Bool.true_and, Bool.false_and, Bool.and_true, Bool.and_false, cond_true, cond_false, beq_self_eq_true, Int.reduceBEq, decide_true, decide_false, ld3, ld4, ld5, ld22, ld25, ld30, conv_int u30 u5, conv_int u5 u3, conv_int u5 u30, conv_int u3 u46, bin_eql_bool u4, bin_neq_bool u4, xor64u, and64u, or64u, or8, and8, ex0, ex1, hv, siz, ne] <;> with_reducible rfl))
    with_reducible refine Tl.brF ?_
    repeat (with_reducible apply Tl.val; focus (simp only [bnd_some, bin_add, bin_sub, bin_mul, bin_lss, bin_leq, bin_gtr, bin_geq, bin_eql, bin_neq, un_not, un_neg, goInt, gd_tt, gd_ff, gd_tf, gd_ft, gd_sk, gd3_tt, gd3_ff, gd3_tf, gd3_ft, gd3_sk, Option.map_some, lt_some, pick_t, pick_f, Nat.zero_add, Bool.not_true, Bool.not_false, Bool.true_and, Bool.false_and, Bool.and_true, Bool.and_false, cond_true, cond_false, beq_self_eq_true, Int.reduceBEq, decide_true, decide_false, ld3, ld4, ld5, ld22, ld25, ld30, conv_int u30 u5, conv_int u5 u3, conv_int u5 u30, conv_int u3 u46, bin_eql_bool u4, bin_neq_bool u4, xor64u, and64u, or64u, or8, and8, ex0, ex1, e1] <;> with_reducible rfl))
    refine f18_chk A hb hbl (8 * bs.length - N * W) (by omega) (by omega) (fun hz y8 y => ?_) (fun hz => ?_)
    · have ce : checkE bs (N : Int) (W : Int) = 0 := by
        unfold checkE
        simp only [Int.toNat_natCast]
        rw [if_neg (by simp [q]), if_neg (by simpa using hl)]
        simp [hz]
      have hkn' := hkn ce
      simp only [Int.toNat_natCast] at hkn'
      refine f18_out A hb hW hN (by omega) (by omega) (by omega) N (i := 0) (by omega) (by omega) (Grow.refl h) (.inl ⟨rfl, rfl⟩) fun y9 y10 y h' g' O' => ?_
      have hg : getN bs (N : Int) (W : Int) = digs W (byN bs) N := by
        unfold getN
        rw [if_pos ce]
        simp
      refine ⟨_, rfl, _, by rw [ce], g', ?_⟩
      rw [hg]
      exact O'
    · refine ⟨_, rfl, none_ 4 ?_ (by decide)⟩
      unfold checkE
      simp only [Int.toNat_natCast]
      rw [if_neg (by simp [q]), if_neg (by simpa using hl), if_pos hz]
  · have ne : (((bs.length : Nat) : Int) != ((sizeN N W : Nat) : Int)) = true := by
      simp only [bne_iff_ne, ne_eq]; omega
    repeat (with_reducible apply Tl.val; focus (simp only [bnd_some, bin_add, bin_sub, bin_mul, bin_lss, bin_leq, bin_gtr, bin_geq, bin_eql, bin_neq, un_not, un_neg, goInt, gd_tt, gd_ff, gd_tf, gd_ft, gd_sk, gd3_tt, gd3_ff, gd3_tf, gd3_ft, gd3_sk, Option.map_some, lt_some, pick_t, pick_f, Nat.zero_add, Bool.not_true, Bool.not_false, Bool.true_and, Bool.false_and, Bool.and_true, Bool.and_false, cond_true, cond_false, beq_self_eq_true, Int.reduceBEq, decide_true, decide_false, ld3, ld4, ld5, ld22, ld25, ld30, conv_int u30 u5, conv_int u5 u3, conv_int u5 u30, conv_int u3 u46, bin_eql_bool u4, bin_neq_bool u4, xor64u, and64u, or64u, or8, and8, ex0, ex1, hv, siz, ne] <;> with_reducible rfl))
    with_reducible refine Tl.brT ?_
    refine ⟨_, rfl, none_ 4 ?_ (by decide)⟩
    unfold checkE
    simp only [Int.toNat_natCast]
    rw [if_neg (by simp [q]), if_pos (by simpa using hl)]
end Go.Proofs.Ytodokclcffejfaa.Sh
