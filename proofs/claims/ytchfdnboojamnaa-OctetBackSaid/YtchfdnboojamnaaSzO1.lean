/- What the functions of the octet's package come to: 'Zig', 'Zag', 'PutVar'. -/
import Derived.Test.YtchfdnboojamnaaSz1
import Derived.Test.YtchfdnboojamnaaSzT
import Derived.Test.YtchfdnboojamnaaBits
import Derived.Test.YtchfdnboojamnaaEv29
set_option linter.unusedVariables false
set_option linter.unusedSimpArgs false
namespace Go.Proofs.Ytchfdnboojamnaa.Sh
open Go Go.RowKit Go.Proofs.Ev

theorem bits_u64 : IntKind.u64.bits = 64 := rfl
theorem bits_i64 : IntKind.i64.bits = 64 := rfl
theorem bits_u8 : IntKind.u8.bits = 8 := rfl
theorem f8 {k : Nat} {n : Int} (h0 : -9223372036854775808 ≤ n) (h1 : n < 9223372036854775808) (h : AH) : F8 (eInv env k) k (.int .i64 n) h = some (.int .u64 (zigZ n), h) := by
  unfold F8
  simp only [conv_int u2 u23, bnd_some, shl64u (show (0 : Int) ≤ 1 by decide), shr64i (show (0 : Int) ≤ 63 by decide), xor64u]
  have := zig_eq h0 h1
  have e1 : min (1 : Int).toNat 64 = 1 := by decide
  have e2 : min (63 : Int).toNat 64 = 63 := by decide
  rw [e1, e2, this]
theorem f8c {k : Nat} {n : Int} (h0 : -9223372036854775808 ≤ n) (h1 : n < 9223372036854775808) (h : AH) : eInv env (k + 1) (.func 8) #[] #[.int .i64 n] h = some (.int .u64 (zigZ n), h) := by rw [F8_call]; exact f8 h0 h1 h
theorem f10 {k : Nat} {v : Int} (h0 : 0 ≤ v) (h1 : v < 18446744073709551616) (h : AH) : F10 (eInv env k) k (.int .u64 v) h = some (.int .i64 (zagZ v), h) := by
  unfold F10
  simp only [conv_int u23 u2, bnd_some, shr64u (show (0 : Int) ≤ 1 by decide), and64u, xor64i, un_neg, and_one h0 h1]
  have e1 : min (1 : Int).toNat 64 = 1 := by decide
  rw [e1, zag_eq h0 h1]
theorem f10c {k : Nat} {v : Int} (h0 : 0 ≤ v) (h1 : v < 18446744073709551616) (h : AH) : eInv env (k + 1) (.func 10) #[] #[.int .u64 v] h = some (.int .i64 (zagZ v), h) := by rw [F10_call]; exact f10 h0 h1 h
/-! ### Bytes -/
def brow (z : Int) : List Value := [.int .u8 z]
theorem app25 : AppT Try.prog #[25, 25] 5 1 1 := ⟨by kernel_rfl, ⟨5, by kernel_rfl⟩, sz5, by omega, by kernel_rfl, ⟨_, ze5, rfl, rfl⟩⟩
theorem bs25 (z : Int) (h : AH) : pBuildSlice Try.prog 25 1 #[(0, .int .u8 z)] h = some (.slice (some ⟨h.n, 0, none⟩) 1 1, h.alloc (.cells [.int .u8 z] 5 true)) := by kernel_rfl
/-- Bytes, nil ones too, of one's own from 'n0' on. -/
def OB (n0 : Nat) (h : AH) (v : Value) (l : List Int) : Prop := OwnB Try.prog n0 h v 1 (l.map brow)
/-- A byte more. -/
theorem app_byte {n0 : Nat} {h : AH} {v : Value} {l : List Int} (A : OB n0 h v l) (hl : l.length ≤ 2 ^ 30) (hn0 : n0 ≤ h.n) (z : Int) :
    ∃ v' h', pAppend Try.prog #[25, 25] v (.slice (some ⟨h.n, 0, none⟩) 1 1) (h.alloc (.cells [.int .u8 z] 5 true)) = some (v', h') ∧ OB n0 h' v' (l ++ [z]) ∧ GrowFrom n0 h h' := by
  obtain ⟨v', h', e1, e2, e3⟩ := append_ownB app25 (OwnB.grow A (Grow.alloc h (.cells [.int .u8 z] 5 true))) (slV_one (h := h) (e := 5) (n := 1) (r := [.int .u8 z]) rfl) (by simp; omega) rfl (by simp; omega)
  exact ⟨v', h', e1, by unfold OB; simpa [brow] using e2, ((Grow.alloc h _).from hn0).trans e3⟩
theorem or_128 (m : Nat) (hm : m < 256) : IntKind.u8.wrap (BitVec.ofInt 8 (m : Int) ||| BitVec.ofInt 8 128).toNat = ((m % 128 + 128 : Nat) : Int) := by
  have : ∀ m : Fin 256, IntKind.u8.wrap (BitVec.ofInt 8 (m.val : Int) ||| BitVec.ofInt 8 128).toNat = ((m.val % 128 + 128 : Nat) : Int) := by decide +kernel
  exact this ⟨m, hm⟩
theorem pvar_pos (n : Nat) : 1 ≤ (pvar n).length := by rw [pvar_len]; omega
theorem f9_loop {β : Type} {k : Nat} {Q : β → Prop} {n0 : Nat} {ke0 : Value → Value → Value → AH → Option β} (n : Nat) :
    ∀ {j : Nat} {h : AH} {v : Value} {l : List Int}, (pvar n).length ≤ j → OB n0 h v l → n0 ≤ h.n → l.length + (pvar n).length ≤ 2 ^ 30 →
      (∀ h' v' l' (m : Nat) y, GrowFrom n0 h h' → n0 ≤ h'.n → OB n0 h' v' l' → m < 128 → l' ++ [(m : Int)] = l ++ pvar n → Tl (ke0 v' (.int .u64 m) y h') Q) →
      Tl (F9_llr (eInv env k) k j v (.int .u64 n) h ke0) Q := by
  induction n using Nat.strongRecOn with
  | _ n ih =>
    intro j h v l hj A hn0 hl hk
    have hp := pvar_pos n
    obtain ⟨j, rfl⟩ : ∃ q, j = q + 1 := ⟨j - 1, by omega⟩
    simp only [F9_llr]
    by_cases hn : n < 128
    · have e : decide ((n : Int) ≥ 128) = false := by simp; omega
      repeat (with_reducible apply Tl.val; focus (simp only [bnd_some, bin_add, bin_sub, bin_mul, bin_lss, bin_leq, bin_gtr, bin_geq, bin_eql, bin_neq, un_not, un_neg, goInt, gd_tt, gd_ff, gd_tf, gd_ft, gd_sk, gd3_tt, gd3_ff, gd3_tf, gd3_ft, gd3_sk, Option.map_some, lt_some, pick_t, pick_f, Nat.zero_add, Bool.not_true, Bool.not_false, Bool.true_and, Bool.false_and, Bool.and_true, Bool.and_false, cond_true, cond_false, beq_self_eq_true, Int.reduceBEq, decide_true, decide_false, ld2, ld3, ld5, ld23, ld25, ld47, fa47_0, conv_int u2 u23, conv_int u23 u2, conv_int u23 u5, conv_int u5 u23, bin_eql_bool u4, xor64u, xor64i, and64u, or64u, or8, and8, e] <;> with_reducible rfl))
      with_reducible refine Tl.brF ?_
      exact hk h v l n _ (GrowFrom.refl _ _) hn0 A hn (by rw [pvar_lt hn])
    · have e : decide ((n : Int) ≥ 128) = true := by simp; omega
      have w : IntKind.u8.wrap ((n : Nat) : Int) = ((n % 256 : Nat) : Int) := by rw [wrap_u8]; omega
      have o := or_128 (n % 256) (by omega)
      have e7 : min (7 : Int).toNat 64 = 7 := by decide
      have s : Int.fdiv (n : Int) (2 ^ 7) = ((n / 128 : Nat) : Int) := by rw [fdiv_pow _ (by decide)]; omega
      have hpl : (pvar n).length = (pvar (n / 128)).length + 1 := by rw [pvar_ge hn]; simp
      obtain ⟨v', h', e1, A', g'⟩ := app_byte A (by omega) hn0 ((n % 256 % 128 + 128 : Nat) : Int)
      repeat (with_reducible apply Tl.val; focus (simp only [bnd_some, bin_add, bin_sub, bin_mul, bin_lss, bin_leq, bin_gtr, bin_geq, bin_eql, bin_neq, un_not, un_neg, goInt, gd_tt, gd_ff, gd_tf, gd_ft, gd_sk, gd3_tt, gd3_ff, gd3_tf, gd3_ft, gd3_sk, Option.map_some, lt_some, pick_t, pick_f, Nat.zero_add, Bool.not_true, Bool.not_false, Bool.true_and, Bool.false_and, Bool.and_true, Bool.and_false, cond_true, cond_false, beq_self_eq_true, Int.reduceBEq, decide_true, decide_false, ld2, ld3, ld5, ld23, ld25, ld47, fa47_0, conv_int u2 u23, conv_int u23 u2, conv_int u23 u5, conv_int u5 u23, bin_eql_bool u4, xor64u, xor64i, and64u, or64u, or8, and8, e] <;> with_reducible rfl))
      with_reducible refine Tl.brT ?_
      repeat (with_reducible apply Tl.val; focus (simp only [bnd_some, bin_add, bin_sub, bin_mul, bin_lss, bin_leq, bin_gtr, bin_geq, bin_eql, bin_neq, un_not, un_neg, goInt, gd_tt, gd_ff, gd_tf, gd_ft, gd_sk, gd3_tt, gd3_ff, gd3_tf, gd3_ft, gd3_sk, Option.map_some, lt_some, pick_t, pick_f, Nat.zero_add, Bool.not_true, Bool.not_false, Bool.true_and, Bool.false_and, Bool.and_true, Bool.and_false, cond_true, cond_false, beq_self_eq_true, Int.reduceBEq, decide_true, decide_false, ld2, ld3, ld5, ld23, ld25, ld47, fa47_0, conv_int u2 u23, conv_int u23 u2, conv_int u23 u5, conv_int u5 u23, bin_eql_bool u4, xor64u, xor64i, and64u, or64u, or8, and8, w, o, bs25] <;> with_reducible rfl))
      with_reducible refine Tl.val e1 ?_
      repeat (with_reducible apply Tl.val; focus (simp only [bnd_some, bin_add, bin_sub, bin_mul, bin_lss, bin_leq, bin_gtr, bin_geq, bin_eql, bin_neq, un_not, un_neg, goInt, gd_tt, gd_ff, gd_tf, gd_ft, gd_sk, gd3_tt, gd3_ff, gd3_tf, gd3_ft, gd3_sk, Option.map_some, lt_some, pick_t, pick_f, Nat.zero_add, Bool.not_true, Bool.not_false, Bool.true_and, Bool.false_and, Bool.and_true, Bool.and_false, cond_true, cond_false, beq_self_eq_true, Int.reduceBEq, decide_true, decide_false, ld2, ld3, ld5, ld23, ld25, ld47, fa47_0, conv_int u2 u23, conv_int u23 u2, conv_int u23 u5, conv_int u5 u23, bin_eql_bool u4, xor64u, xor64i, and64u, or64u, or8, and8, shr64u (show (0 : Int) ≤ 7 by decide), e7, s] <;> with_reducible rfl))
      refine ih (n / 128) (by omega) (by omega) A' (Nat.le_trans hn0 g'.1) (by simp; omega) fun h2 v2 l2 m y g2 hn2 A2 hm hcat => ?_
      refine hk h2 v2 l2 m y (g'.trans g2) hn2 A2 hm ?_
      rw [hcat, pvar_ge hn, List.append_assoc]
      have : n % 256 % 128 = n % 128 := by omega
      rw [this]
      rfl
/-- 'PutVar'. -/
theorem f9 {k : Nat} {n0 : Nat} {h : AH} {v : Value} {l : List Int} (n : Nat) (A : OB n0 h v l) (hn0 : n0 ≤ h.n) (hk : (pvar n).length ≤ k) (hl : l.length + (pvar n).length ≤ 2 ^ 30) :
    Tl (F9 (eInv env k) k v (.int .u64 n) h) fun r => OB n0 r.2 r.1 (l ++ pvar n) ∧ GrowFrom n0 h r.2 := by
  unfold F9
  refine f9_loop n hk A hn0 hl fun h' v' l' m y g hn A' hm hcat => ?_
  have w : IntKind.u8.wrap ((m : Nat) : Int) = ((m : Nat) : Int) := by rw [wrap_u8]; omega
  have hlen : l'.length + 1 = l.length + (pvar n).length := by
    have := congrArg List.length hcat
    simpa using this
  obtain ⟨v2, h2, e1, A2, g2⟩ := app_byte A' (by omega) hn (m : Int)
  repeat (with_reducible apply Tl.val; focus (simp only [bnd_some, bin_add, bin_sub, bin_mul, bin_lss, bin_leq, bin_gtr, bin_geq, bin_eql, bin_neq, un_not, un_neg, goInt, gd_tt, gd_ff, gd_tf, gd_ft, gd_sk, gd3_tt, gd3_ff, gd3_tf, gd3_ft, gd3_sk, Option.map_some, lt_some, pick_t, pick_f, Nat.zero_add, Bool.not_true, Bool.not_false, Bool.true_and, Bool.false_and, Bool.and_true, Bool.and_false, cond_true, cond_false, beq_self_eq_true, Int.reduceBEq, decide_true, decide_false, ld2, ld3, ld5, ld23, ld25, ld47, fa47_0, conv_int u2 u23, conv_int u23 u2, conv_int u23 u5, conv_int u5 u23, bin_eql_bool u4, xor64u, xor64i, and64u, or64u, or8, and8, w, bs25] <;> with_reducible rfl))
  with_reducible refine Tl.val e1 ?_
  exact ⟨_, rfl, by rw [← hcat]; exact A2, g.trans g2⟩
theorem f9c {k : Nat} {n0 : Nat} {h : AH} {v : Value} {l : List Int} (n : Nat) (A : OB n0 h v l) (hn0 : n0 ≤ h.n) (hk : (pvar n).length ≤ k) (hl : l.length + (pvar n).length ≤ 2 ^ 30) :
    Tl (eInv env (k + 1) (.func 9) #[] #[v, .int .u64 n] h) fun r => OB n0 r.2 r.1 (l ++ pvar n) ∧ GrowFrom n0 h r.2 := by
  rw [F9_call]; exact f9 n A hn0 hk hl
theorem pvar_le10 {n : Nat} (h : n < 18446744073709551616) : (pvar n).length ≤ 10 := by
  rw [pvar_len]
  have := bl_le 64 n (by simpa using h)
  omega
end Go.Proofs.Ytchfdnboojamnaa.Sh
