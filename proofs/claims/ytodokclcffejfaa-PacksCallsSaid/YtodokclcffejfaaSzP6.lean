/- What the functions of the packs' package come to: what is packed, as a number; 'at', 'check'. -/
import Derived.Test.YtodokclcffejfaaSzP5
import Derived.Test.YtodokclcffejfaaPack
import Derived.Test.YtodokclcffejfaaEv30
set_option linter.unusedVariables false
set_option linter.unusedSimpArgs false
set_option maxRecDepth 100000
namespace Go.Proofs.Ytodokclcffejfaa.Sh
open Go Go.RowKit Go.Proofs.Ev

theorem one64_nat (v : Nat) (h : v < 18446744073709551616) : one64 (v : Int) = ((v % 2 : Nat) : Int) := by
  unfold one64
  rw [and_one (by omega) (by omega), wrap_u8]
  omega
theorem bitsOf_nat (w : Nat) : ∀ v : Nat, v < 18446744073709551616 → bitsOf w (v : Int) = ints (bitsN w v) := by
  induction w with
  | zero => intro v _; rfl
  | succ w ih =>
    intro v h
    have e1 : min (1 : Int).toNat 64 = 1 := by decide
    have e2 : Int.fdiv (v : Int) (2 ^ 1) = ((v / 2 : Nat) : Int) := by rw [fdiv_pow _ (by decide)]; omega
    unfold bitsOf
    rw [one64_nat v h, e1, e2, ih (v / 2) (by omega)]
    rfl
theorem allBits_nat (w : Nat) : ∀ l : List Nat, (∀ x ∈ l, x < 18446744073709551616) → allBits w (ints l) = ints (l.flatMap (bitsN w)) := by
  intro l
  induction l with
  | nil => intro _; rfl
  | cons x l ih =>
    intro h
    have e : allBits w (ints (x :: l)) = bitsOf w (x : Int) ++ allBits w (ints l) := by simp [allBits, ints]
    rw [e, bitsOf_nat w x (h x (by simp)), ih fun y hy => h y (by simp [hy]), List.flatMap_cons, ints_append]
def castS (s : PN) : PS := ⟨ints s.out, (s.held : Int), s.n⟩
theorem or8_nat (a b : Nat) (ha : a < 256) (hb : b < 256) : IntKind.u8.wrap (BitVec.ofInt 8 (a : Int) ||| BitVec.ofInt 8 (b : Int)).toNat = ((a ||| b : Nat) : Int) := by
  have e : ∀ c : Nat, c < 256 → (BitVec.ofInt 8 (c : Int)).toNat = c := fun c hc => by
    rw [BitVec.toNat_ofInt]
    simp
    omega
  rw [BitVec.toNat_or, e a ha, e b hb]
  have : a ||| b < 2 ^ 8 := Nat.or_lt_two_pow (by simpa using ha) (by simpa using hb)
  rw [wrap_u8]
  have h2 : (2 : Nat) ^ 8 = 256 := by decide
  omega
theorem bit_cast {s : PN} {b : Nat} (hs : s.held < 2 ^ s.n) (h8 : s.n < 8) (hb : b < 2) : bitS (castS s) (b : Int) = castS (bitN s b) := by
  have hp : 2 ^ s.n ≤ 2 ^ 7 := Nat.pow_le_pow_right (by decide) (by omega)
  have h7 : (2 : Nat) ^ 7 = 128 := by decide
  have hbn : b * 2 ^ s.n ≤ 1 * 2 ^ s.n := Nat.mul_le_mul_right _ (by omega)
  have hh : heldS (castS s) (b : Int) = ((s.held + b * 2 ^ s.n : Nat) : Int) := by
    unfold heldS castS
    simp only
    have e1 : min ((s.n : Int)).toNat 8 = s.n := by omega
    rw [e1]
    have e2 : IntKind.u8.wrap ((b : Int) * 2 ^ s.n) = ((b * 2 ^ s.n : Nat) : Int) := by
      have : (b : Int) * 2 ^ s.n = ((b * 2 ^ s.n : Nat) : Int) := by simp
      rw [this, wrap_u8]; omega
    rw [e2, or8_nat _ _ (by omega) (by omega), or_disj _ _ _ hs]
  unfold bitS bitN
  rw [hh]
  unfold castS
  simp only
  by_cases q : s.n = 7
  · rw [if_pos q, if_pos q]
    simp [ints]
  · rw [if_neg q, if_neg q]
theorem fold_cast : ∀ (S : List Nat) {s : PN} {V k : Nat}, (∀ b ∈ S, b < 2) → PNOk s V k → (ints S).foldl bitS (castS s) = castS (S.foldl bitN s) := by
  intro S
  induction S with
  | nil => intro s V k _ _; rfl
  | cons b S ih =>
    intro s V k hb h
    have e : ints (b :: S) = (b : Int) :: ints S := rfl
    rw [e, List.foldl_cons, List.foldl_cons, bit_cast h.small h.n8 (hb b (by simp))]
    exact ih (fun x hx => hb x (by simp [hx])) (bitN_ok h (hb b (by simp)))
theorem putS_nat (w : Nat) (l : List Nat) (hx : ∀ x ∈ l, x < 18446744073709551616) : putS w (ints l) = ints (putN w l) := by
  unfold putS putN
  rw [allBits_nat w l hx]
  have := fold_cast (l.flatMap (bitsN w)) (s := ⟨[], 0, 0⟩) (V := 0) (k := 0) (flat_bits_lt w l) ⟨by simp [byN], by simp, by simp, by simp, fun x hx => by cases hx⟩
  have e0 : castS ⟨[], 0, 0⟩ = ⟨[], 0, 0⟩ := rfl
  rw [e0] at this
  rw [this]
  unfold castS
  simp only
  split
  · simp [ints]
  · rfl
/-! ### 'at' -/
theorem shr8_bit (x r : Nat) (hx : x < 256) (hr : r < 8) : IntKind.u8.wrap (BitVec.ofInt 8 (Int.fdiv (x : Int) (2 ^ (min ((r : Int)).toNat 8))) &&& BitVec.ofInt 8 1).toNat = ((x / 2 ^ r % 2 : Nat) : Int) := by
  have e1 : min ((r : Int)).toNat 8 = r := by omega
  have e2 : Int.fdiv (x : Int) (2 ^ r) = ((x / 2 ^ r : Nat) : Int) := by
    rw [fdiv_pow _ (by exact_mod_cast Nat.zero_le _)]
    simp
  have hd : x / 2 ^ r < 256 := Nat.lt_of_le_of_lt (Nat.div_le_self _ _) hx
  rw [e1, e2]
  have h1 : ∀ c : Fin 256, IntKind.u8.wrap (BitVec.ofInt 8 (c.val : Int) &&& BitVec.ofInt 8 1).toNat = ((c.val % 2 : Nat) : Int) := by decide +kernel
  exact h1 ⟨_, hd⟩
theorem f30_loop {β : Type} {k : Nat} {Q : β → Prop} {h : AH} {v : Value} {bs : List Nat} (A : Bytes h v (ints bs)) (hb : ∀ x ∈ bs, x < 256) {frm w : Nat} (hw : w ≤ 64) (hfw : frm + w ≤ 8 * bs.length) (hbl : bs.length ≤ 2 ^ 40) {ke0 : Value → Value → Value → Value → Value → Value → AH → Option β} (n : Nat) :
    ∀ {i j : Nat}, i + n = w → n < j → (∀ y10 y, Tl (ke0 v (.int .i64 frm) (.int .u64 ((byN bs / 2 ^ frm % 2 ^ w : Nat) : Int)) (.int .i64 w) y10 y h) Q) →
      Tl (F30_lrlr (eInv env k) k j v (.int .i64 frm) (.int .u64 ((byN bs / 2 ^ frm % 2 ^ i : Nat) : Int)) (.int .i64 w) (.int .i64 i) h ke0) Q := by
  induction n with
  | zero =>
    intro i j hi hj hk
    obtain ⟨j, rfl⟩ : ∃ q, j = q + 1 := ⟨j - 1, by omega⟩
    simp only [F30_lrlr]
    have e : decide ((i : Int) < (w : Int)) = false := by simp; omega
    repeat (with_reducible apply Tl.val; focus (simp only [bnd_some, bin_add, bin_sub, bin_mul, bin_lss, bin_leq, bin_gtr, bin_geq, bin_eql, bin_neq, un_not, un_neg, goInt, gd_tt, gd_ff, gd_tf, gd_ft, gd_sk, gd3_tt, gd3_ff, gd3_tf, gd3_ft, gd3_sk, Option.map_some, lt_some, pick_t, pick_f, Nat.zero_add, Bool.not_true, Bool.not_false, Bool.true_and, Bool.false_and, Bool.and_true, Bool.and_false, cond_true, cond_false, beq_self_eq_true, Int.reduceBEq, decide_true, decide_false, ld3, ld5, ld22, ld25, ld30, conv_int u30 u5, conv_int u5 u3, conv_int u5 u30, bin_eql_bool u4, bin_neq_bool u4, xor64u, and64u, or64u, or8, and8, ex0, ex1, e] <;> with_reducible rfl))
    with_reducible refine Tl.brF ?_
    have : i = w := by omega
    subst this
    exact hk _ _
  | succ n ih =>
    intro i j hi hj hk
    obtain ⟨j, rfl⟩ : ∃ q, j = q + 1 := ⟨j - 1, by omega⟩
    have hlt : (frm + i) / 8 < bs.length := by omega
    obtain ⟨x, hx⟩ : ∃ x, bs[(frm + i) / 8]? = some x := ⟨_, List.getElem?_eq_getElem hlt⟩
    have hx256 := hb x (List.mem_of_getElem? hx)
    obtain ⟨b, o, hxx, hc⟩ := A.at_ (i := (frm + i) / 8) (c := (x : Int)) (by simp [ints, hx])
    simp only [F30_lrlr]
    have e : decide ((i : Int) < (w : Int)) = true := by simp; omega
    have wa : IntKind.i64.wrap ((frm : Int) + (i : Int)) = ((frm + i : Nat) : Int) := by rw [wrap_i64']; split <;> omega
    have wq : IntKind.i64.wrap (((frm + i : Nat) : Int).tdiv 8) = (((frm + i) / 8 : Nat) : Int) := by
      have : ((frm + i : Nat) : Int).tdiv 8 = (((frm + i) / 8 : Nat) : Int) := by rw [Int.tdiv_eq_ediv_of_nonneg (by omega)]; omega
      rw [this, wrap_i64']; split <;> omega
    have wr : ((frm + i : Nat) : Int).tmod 8 = (((frm + i) % 8 : Nat) : Int) := by rw [Int.tmod_eq_emod_of_nonneg (by omega)]; omega
    have bit := shr8_bit x ((frm + i) % 8) hx256 (Nat.mod_lt _ (by decide))
    have hbit : x / 2 ^ ((frm + i) % 8) % 2 = byN bs / 2 ^ (frm + i) % 2 := (byN_bit bs hb (frm + i) x hx).symm
    rw [hbit] at bit
    have hb2 : byN bs / 2 ^ (frm + i) % 2 < 2 := Nat.mod_lt _ (by decide)
    have wc : IntKind.u64.wrap ((byN bs / 2 ^ (frm + i) % 2 : Nat) : Int) = ((byN bs / 2 ^ (frm + i) % 2 : Nat) : Int) := by rw [wrap_u64]; omega
    have hp : 2 ^ i ≤ 2 ^ 63 := Nat.pow_le_pow_right (by decide) (by omega)
    have h63 : (2 : Nat) ^ 63 = 9223372036854775808 := by decide
    have hmul : byN bs / 2 ^ (frm + i) % 2 * 2 ^ i ≤ 1 * 2 ^ i := Nat.mul_le_mul_right _ (by omega)
    have sh : IntKind.u64.wrap (((byN bs / 2 ^ (frm + i) % 2 : Nat) : Int) * 2 ^ (min ((i : Int)).toNat 64)) = ((byN bs / 2 ^ (frm + i) % 2 * 2 ^ i : Nat) : Int) := by
      have e1 : min ((i : Int)).toNat 64 = i := by omega
      rw [e1]
      have e2 : ((byN bs / 2 ^ (frm + i) % 2 : Nat) : Int) * 2 ^ i = ((byN bs / 2 ^ (frm + i) % 2 * 2 ^ i : Nat) : Int) := by simp
      rw [e2, wrap_u64]
      omega
    have hacc : byN bs / 2 ^ frm % 2 ^ i < 2 ^ i := Nat.mod_lt _ (Nat.two_pow_pos i)
    have o1 := or_nat (byN bs / 2 ^ frm % 2 ^ i) (byN bs / 2 ^ (frm + i) % 2 * 2 ^ i) (by omega) (by omega)
    rw [or_disj _ _ _ hacc] at o1
    have hnext : byN bs / 2 ^ frm % 2 ^ i + byN bs / 2 ^ (frm + i) % 2 * 2 ^ i = byN bs / 2 ^ frm % 2 ^ (i + 1) := by
      rw [Nat.pow_succ, Nat.mod_mul, Nat.div_div_eq_div_mul, ← Nat.pow_add, Nat.mul_comm (2 ^ i)]
    rw [hnext] at o1
    have w1 : IntKind.i64.wrap ((i : Int) + 1) = ((i + 1 : Nat) : Int) := by rw [wrap_i64']; split <;> omega
    have sr : ∀ (y z : Operand), pBin Try.prog .shr 5 y z (.int .u8 (x : Int)) (.int .i64 (((frm + i) % 8 : Nat) : Int)) = some (.int .u8 (Int.fdiv (x : Int) (2 ^ (min ((((frm + i) % 8 : Nat) : Int)).toNat 8)))) := fun y z => shr8 (by omega)
    have sl : ∀ (y z : Operand), pBin Try.prog .shl 30 y z (.int .u64 ((byN bs / 2 ^ (frm + i) % 2 : Nat) : Int)) (.int .i64 (i : Int)) = some (.int .u64 (IntKind.u64.wrap (((byN bs / 2 ^ (frm + i) % 2 : Nat) : Int) * 2 ^ (min ((i : Int)).toNat 64)))) := fun y z => shl64u (by omega)
    repeat (with_reducible apply Tl.val; focus (simp only [bnd_some, bin_add, bin_sub, bin_mul, bin_lss, bin_leq, bin_gtr, bin_geq, bin_eql, bin_neq, un_not, un_neg, goInt, gd_tt, gd_ff, gd_tf, gd_ft, gd_sk, gd3_tt, gd3_ff, gd3_tf, gd3_ft, gd3_sk, Option.map_some, lt_some, pick_t, pick_f, Nat.zero_add, Bool.not_true, Bool.not_false, Bool.true_and, Bool.false_and, Bool.and_true, Bool.and_false, cond_true, cond_false, beq_self_eq_true, Int.reduceBEq, decide_true, decide_false, ld3, ld5, ld22, ld25, ld30, conv_int u30 u5, conv_int u5 u3, conv_int u5 u30, bin_eql_bool u4, bin_neq_bool u4, xor64u, and64u, or64u, or8, and8, ex0, ex1, e] <;> with_reducible rfl))
    with_reducible refine Tl.brT ?_
    repeat (with_reducible apply Tl.val; focus (simp only [bnd_some, bin_add, bin_sub, bin_mul, bin_lss, bin_leq, bin_gtr, bin_geq, bin_eql, bin_neq, un_not, un_neg, goInt, gd_tt, gd_ff, gd_tf, gd_ft, gd_sk, gd3_tt, gd3_ff, gd3_tf, gd3_ft, gd3_sk, Option.map_some, lt_some, pick_t, pick_f, Nat.zero_add, Bool.not_true, Bool.not_false, Bool.true_and, Bool.false_and, Bool.and_true, Bool.and_false, cond_true, cond_false, beq_self_eq_true, Int.reduceBEq, decide_true, decide_false, ld3, ld5, ld22, ld25, ld30, conv_int u30 u5, conv_int u5 u3, conv_int u5 u30, bin_eql_bool u4, bin_neq_bool u4, xor64u, and64u, or64u, or8, and8, ex0, ex1, wa, bin_quo (show (8 : Int) ≠ 0 by decide), wq, hxx, hc, bin_rem (show (8 : Int) ≠ 0 by decide), wr, sr, bit, wc, sl, sh, o1, w1] <;> with_reducible rfl))
    exact ih (by omega) (by omega) hk
theorem f30c {k : Nat} {h : AH} {v : Value} {bs : List Nat} (A : Bytes h v (ints bs)) (hb : ∀ x ∈ bs, x < 256) {frm w : Nat} (hw : w ≤ 64) (hfw : frm + w ≤ 8 * bs.length) (hbl : bs.length ≤ 2 ^ 40) (hk : 65 < k) :
    eInv env (k + 1) (.func 30) #[] #[v, .int .i64 frm, .int .i64 w] h = some (.int .u64 ((byN bs / 2 ^ frm % 2 ^ w : Nat) : Int), h) := by
  have T : Tl (F30 (eInv env k) k v (.int .i64 frm) (.int .i64 w) h) fun r => r = (.int .u64 ((byN bs / 2 ^ frm % 2 ^ w : Nat) : Int), h) := by
    unfold F30
    have e0 : ((0 : Int)) = ((byN bs / 2 ^ frm % 2 ^ 0 : Nat) : Int) := by simp [Nat.mod_one]
    rw [show (Value.int IntKind.u64 0) = .int .u64 ((byN bs / 2 ^ frm % 2 ^ 0 : Nat) : Int) by rw [← e0]]
    refine f30_loop A hb hw hfw hbl w (i := 0) (by omega) (by omega) fun y10 y => ?_
    exact ⟨_, rfl, rfl⟩
  obtain ⟨r, h1, h2⟩ := T
  rw [F30_call, h1, h2]
end Go.Proofs.Ytodokclcffejfaa.Sh
