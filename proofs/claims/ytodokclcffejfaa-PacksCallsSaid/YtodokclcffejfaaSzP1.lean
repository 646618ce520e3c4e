/- What the functions of the packs' package come to: how many bits. -/
import Derived.Test.YtodokclcffejfaaSz2
import Derived.Test.YtodokclcffejfaaSzT
import Derived.Test.YtodokclcffejfaaBits
import Derived.Test.YtodokclcffejfaaEv29
set_option linter.unusedVariables false
set_option linter.unusedSimpArgs false
set_option maxRecDepth 100000
namespace Go.Proofs.Ytodokclcffejfaa.Sh
open Go Go.RowKit Go.Proofs.Ev

/-! ### Numbers of 64 bits, bytes -/
def wrow (z : Int) : List Value := [.int .u64 z]
def brow (z : Int) : List Value := [.int .u8 z]
def Words (h : AH) (v : Value) (l : List Int) : Prop := SlV Try.prog h v 1 (l.map wrow)
theorem Words.grow {h h' : AH} {v : Value} {l : List Int} (S : Words h v l) (g : Grow h h') : Words h' v l := SlV.grow S g
theorem Words.len {h h' : AH} {v : Value} {l : List Int} (S : Words h v l) : pLen Try.prog #[22] v h' = some (.int .i64 l.length) := by
  have := SlV.len S u22 (h' := h')
  simpa using this
theorem Words.at_ {h : AH} {v : Value} {l : List Int} (S : Words h v l) {i : Nat} {c : Int} (hi : l[i]? = some c) :
    ∃ b o, pIndexAddr Try.prog 22 v (.int .i64 i) = some (.pointer (some ⟨b, o, none⟩)) ∧ h.cell b o = some (.int .u64 c) := by
  obtain ⟨b, o, h1, h2⟩ := SlV.at_ S (t := 22) (k := .i64) (i := i) (r := wrow c) (by simp [hi]) u22 sz30
  exact ⟨b, o, h1, Ev.cell_of_row (j := 0) h2 (by omega)⟩
/-! ### 'Len64' -/
def blf : Nat → Nat → Nat
  | 0, _ => 0
  | f + 1, v => if v = 0 then 0 else blf f (v / 2) + 1
theorem blf_eq (f : Nat) : ∀ v : Nat, v < 2 ^ f → blf f v = bl v := by
  induction f with
  | zero => intro v h; have : v = 0 := by simpa using h
            subst this; rw [bl_zero]; rfl
  | succ f ih =>
    intro v h
    unfold blf
    by_cases hv : v = 0
    · rw [if_pos hv, hv, bl_zero]
    · rw [if_neg hv, bl_pos (by omega), ih (v / 2) (by rw [Nat.pow_succ] at h; omega)]
def tab : Value := Go.Value.string { data := #[0, 1, 2, 2, 3, 3, 3, 3, 4, 4, 4, 4, 4, 4, 4, 4, 5, 5, 5, 5, 5, 5, 5, 5, 5, 5, 5, 5, 5, 5, 5, 5, 6, 6, 6, 6, 6, 6, 6, 6, 6, 6, 6, 6, 6, 6, 6, 6, 6, 6, 6, 6, 6, 6, 6, 6, 6, 6, 6, 6, 6, 6, 6, 6, 7, 7, 7, 7, 7, 7, 7, 7, 7, 7, 7, 7, 7, 7, 7, 7, 7, 7, 7, 7, 7, 7, 7, 7, 7, 7, 7, 7, 7, 7, 7, 7, 7, 7, 7, 7, 7, 7, 7, 7, 7, 7, 7, 7, 7, 7, 7, 7, 7, 7, 7, 7, 7, 7, 7, 7, 7, 7, 7, 7, 7, 7, 7, 7, 8, 8, 8, 8, 8, 8, 8, 8, 8, 8, 8, 8, 8, 8, 8, 8, 8, 8, 8, 8, 8, 8, 8, 8, 8, 8, 8, 8, 8, 8, 8, 8, 8, 8, 8, 8, 8, 8, 8, 8, 8, 8, 8, 8, 8, 8, 8, 8, 8, 8, 8, 8, 8, 8, 8, 8, 8, 8, 8, 8, 8, 8, 8, 8, 8, 8, 8, 8, 8, 8, 8, 8, 8, 8, 8, 8, 8, 8, 8, 8, 8, 8, 8, 8, 8, 8, 8, 8, 8, 8, 8, 8, 8, 8, 8, 8, 8, 8, 8, 8, 8, 8, 8, 8, 8, 8, 8, 8, 8, 8, 8, 8, 8, 8, 8, 8, 8, 8, 8, 8, 8, 8, 8, 8, 8, 8, 8, 8] }
theorem tab_at (m : Nat) (hm : m < 256) : pIndex Try.prog 9 tab (.int .u8 (m : Int)) = some (.int .u8 (bl m : Int)) := by
  have hz : ∀ m : Fin 256, ((⟨#[0, 1, 2, 2, 3, 3, 3, 3, 4, 4, 4, 4, 4, 4, 4, 4, 5, 5, 5, 5, 5, 5, 5, 5, 5, 5, 5, 5, 5, 5, 5, 5, 6, 6, 6, 6, 6, 6, 6, 6, 6, 6, 6, 6, 6, 6, 6, 6, 6, 6, 6, 6, 6, 6, 6, 6, 6, 6, 6, 6, 6, 6, 6, 6, 7, 7, 7, 7, 7, 7, 7, 7, 7, 7, 7, 7, 7, 7, 7, 7, 7, 7, 7, 7, 7, 7, 7, 7, 7, 7, 7, 7, 7, 7, 7, 7, 7, 7, 7, 7, 7, 7, 7, 7, 7, 7, 7, 7, 7, 7, 7, 7, 7, 7, 7, 7, 7, 7, 7, 7, 7, 7, 7, 7, 7, 7, 7, 7, 8, 8, 8, 8, 8, 8, 8, 8, 8, 8, 8, 8, 8, 8, 8, 8, 8, 8, 8, 8, 8, 8, 8, 8, 8, 8, 8, 8, 8, 8, 8, 8, 8, 8, 8, 8, 8, 8, 8, 8, 8, 8, 8, 8, 8, 8, 8, 8, 8, 8, 8, 8, 8, 8, 8, 8, 8, 8, 8, 8, 8, 8, 8, 8, 8, 8, 8, 8, 8, 8, 8, 8, 8, 8, 8, 8, 8, 8, 8, 8, 8, 8, 8, 8, 8, 8, 8, 8, 8, 8, 8, 8, 8, 8, 8, 8, 8, 8, 8, 8, 8, 8, 8, 8, 8, 8, 8, 8, 8, 8, 8, 8, 8, 8, 8, 8, 8, 8, 8, 8, 8, 8, 8, 8, 8, 8, 8, 8]⟩ : ByteArray)[m.val]?).map (fun b => b.toNat) = some (blf 8 m.val) := by decide +kernel
  have := hz ⟨m, hm⟩
  rw [blf_eq 8 m (by simpa using hm)] at this
  unfold tab
  rw [index_string u9 (by omega)]
  simp only [Int.toNat_natCast]
  cases hc : (⟨#[0, 1, 2, 2, 3, 3, 3, 3, 4, 4, 4, 4, 4, 4, 4, 4, 5, 5, 5, 5, 5, 5, 5, 5, 5, 5, 5, 5, 5, 5, 5, 5, 6, 6, 6, 6, 6, 6, 6, 6, 6, 6, 6, 6, 6, 6, 6, 6, 6, 6, 6, 6, 6, 6, 6, 6, 6, 6, 6, 6, 6, 6, 6, 6, 7, 7, 7, 7, 7, 7, 7, 7, 7, 7, 7, 7, 7, 7, 7, 7, 7, 7, 7, 7, 7, 7, 7, 7, 7, 7, 7, 7, 7, 7, 7, 7, 7, 7, 7, 7, 7, 7, 7, 7, 7, 7, 7, 7, 7, 7, 7, 7, 7, 7, 7, 7, 7, 7, 7, 7, 7, 7, 7, 7, 7, 7, 7, 7, 8, 8, 8, 8, 8, 8, 8, 8, 8, 8, 8, 8, 8, 8, 8, 8, 8, 8, 8, 8, 8, 8, 8, 8, 8, 8, 8, 8, 8, 8, 8, 8, 8, 8, 8, 8, 8, 8, 8, 8, 8, 8, 8, 8, 8, 8, 8, 8, 8, 8, 8, 8, 8, 8, 8, 8, 8, 8, 8, 8, 8, 8, 8, 8, 8, 8, 8, 8, 8, 8, 8, 8, 8, 8, 8, 8, 8, 8, 8, 8, 8, 8, 8, 8, 8, 8, 8, 8, 8, 8, 8, 8, 8, 8, 8, 8, 8, 8, 8, 8, 8, 8, 8, 8, 8, 8, 8, 8, 8, 8, 8, 8, 8, 8, 8, 8, 8, 8, 8, 8, 8, 8, 8, 8, 8, 8, 8, 8]⟩ : ByteArray)[m]? with
  | none => rw [hc] at this; cases this
  | some b =>
    rw [hc] at this
    simp only [Option.map_some, Option.some.injEq] at this ⊢
    rw [this]
theorem f26c {k : Nat} (x : Nat) (hx : x < 18446744073709551616) (h : AH) : eInv env (k + 1) (.func 26) #[] #[.int .u64 x] h = some (.int .i64 (bl x), h) := by
  have T : Tl (F26 (eInv env k) k (.int .u64 x) h) fun r => r = (.int .i64 (bl x), h) := by
    unfold F26
    -- the last step
    have last : ∀ (y : Nat) (n : Nat), y < 256 → n + bl y = bl x → n ≤ 56 → Tl (Ev.bnd (pConv Try.prog 30 5 (.int .u64 y) h) fun x21 => Ev.bnd (pIndex Try.prog 9 (Go.Value.string { data := #[0, 1, 2, 2, 3, 3, 3, 3, 4, 4, 4, 4, 4, 4, 4, 4, 5, 5, 5, 5, 5, 5, 5, 5, 5, 5, 5, 5, 5, 5, 5, 5, 6, 6, 6, 6, 6, 6, 6, 6, 6, 6, 6, 6, 6, 6, 6, 6, 6, 6, 6, 6, 6, 6, 6, 6, 6, 6, 6, 6, 6, 6, 6, 6, 7, 7, 7, 7, 7, 7, 7, 7, 7, 7, 7, 7, 7, 7, 7, 7, 7, 7, 7, 7, 7, 7, 7, 7, 7, 7, 7, 7, 7, 7, 7, 7, 7, 7, 7, 7, 7, 7, 7, 7, 7, 7, 7, 7, 7, 7, 7, 7, 7, 7, 7, 7, 7, 7, 7, 7, 7, 7, 7, 7, 7, 7, 7, 7, 8, 8, 8, 8, 8, 8, 8, 8, 8, 8, 8, 8, 8, 8, 8, 8, 8, 8, 8, 8, 8, 8, 8, 8, 8, 8, 8, 8, 8, 8, 8, 8, 8, 8, 8, 8, 8, 8, 8, 8, 8, 8, 8, 8, 8, 8, 8, 8, 8, 8, 8, 8, 8, 8, 8, 8, 8, 8, 8, 8, 8, 8, 8, 8, 8, 8, 8, 8, 8, 8, 8, 8, 8, 8, 8, 8, 8, 8, 8, 8, 8, 8, 8, 8, 8, 8, 8, 8, 8, 8, 8, 8, 8, 8, 8, 8, 8, 8, 8, 8, 8, 8, 8, 8, 8, 8, 8, 8, 8, 8, 8, 8, 8, 8, 8, 8, 8, 8, 8, 8, 8, 8, 8, 8, 8, 8, 8, 8] }) x21) fun x22 => Ev.bnd (pConv Try.prog 5 3 x22 h) fun x23 =>
        Ev.bnd (pBin Try.prog Go.BinOp.add 3 (Go.Operand.tmp 19) (Go.Operand.tmp 23) (.int .i64 (n : Int)) x23) fun x24 => some (x24, h)) fun r => r = (.int .i64 (bl x), h) := by
      intro y n hy hn hn2
      have w : IntKind.u8.wrap ((y : Nat) : Int) = ((y : Nat) : Int) := by rw [wrap_u8]; omega
      have hb := bl_le 8 y (by simpa using hy)
      have w2 : IntKind.i64.wrap ((bl y : Nat) : Int) = ((bl y : Nat) : Int) := by rw [wrap_i64']; split <;> omega
      have w3 : IntKind.i64.wrap ((n : Int) + ((bl y : Nat) : Int)) = ((bl x : Nat) : Int) := by rw [wrap_i64']; split <;> omega
      have t := tab_at y hy
      unfold tab at t
      repeat (with_reducible apply Tl.val; focus (simp only [bnd_some, bin_add, bin_sub, bin_mul, bin_lss, bin_leq, bin_gtr, bin_geq, bin_eql, bin_neq, un_not, un_neg, goInt, gd_tt, gd_ff, gd_tf, gd_ft, gd_sk, gd3_tt, gd3_ff, gd3_tf, gd3_ft, gd3_sk, Option.map_some, lt_some, pick_t, pick_f, Nat.zero_add, Bool.not_true, Bool.not_false, Bool.true_and, Bool.false_and, Bool.and_true, Bool.and_false, cond_true, cond_false, beq_self_eq_true, Int.reduceBEq, decide_true, decide_false, ld3, ld5, ld25, ld30, conv_int u30 u5, conv_int u5 u3, bin_eql_bool u4, bin_neq_bool u4, xor64u, and64u, or64u, or8, and8, w, t, w2, w3] <;> with_reducible rfl))
      exact ⟨_, rfl, rfl⟩
    have s8 : ∀ (y n : Nat), y < 65536 → n + bl y = bl x → n ≤ 48 → Tl (Ev.bnd (pBin Try.prog Go.BinOp.geq 30 (Go.Operand.tmp 13) (Go.Operand.const (Go.Value.int Go.IntKind.u64 256)) (.int .u64 y) (Go.Value.int Go.IntKind.u64 256)) fun x14 =>
        F26_rlrrr (eInv env k) k (.int .u64 y) (.int .i64 (n : Int)) x14 h fun y0_4 y2_5 y14 h_6 => Ev.bnd (pConv Try.prog 30 5 y0_4 h_6) fun x21 => Ev.bnd (pIndex Try.prog 9 (Go.Value.string { data := #[0, 1, 2, 2, 3, 3, 3, 3, 4, 4, 4, 4, 4, 4, 4, 4, 5, 5, 5, 5, 5, 5, 5, 5, 5, 5, 5, 5, 5, 5, 5, 5, 6, 6, 6, 6, 6, 6, 6, 6, 6, 6, 6, 6, 6, 6, 6, 6, 6, 6, 6, 6, 6, 6, 6, 6, 6, 6, 6, 6, 6, 6, 6, 6, 7, 7, 7, 7, 7, 7, 7, 7, 7, 7, 7, 7, 7, 7, 7, 7, 7, 7, 7, 7, 7, 7, 7, 7, 7, 7, 7, 7, 7, 7, 7, 7, 7, 7, 7, 7, 7, 7, 7, 7, 7, 7, 7, 7, 7, 7, 7, 7, 7, 7, 7, 7, 7, 7, 7, 7, 7, 7, 7, 7, 7, 7, 7, 7, 8, 8, 8, 8, 8, 8, 8, 8, 8, 8, 8, 8, 8, 8, 8, 8, 8, 8, 8, 8, 8, 8, 8, 8, 8, 8, 8, 8, 8, 8, 8, 8, 8, 8, 8, 8, 8, 8, 8, 8, 8, 8, 8, 8, 8, 8, 8, 8, 8, 8, 8, 8, 8, 8, 8, 8, 8, 8, 8, 8, 8, 8, 8, 8, 8, 8, 8, 8, 8, 8, 8, 8, 8, 8, 8, 8, 8, 8, 8, 8, 8, 8, 8, 8, 8, 8, 8, 8, 8, 8, 8, 8, 8, 8, 8, 8, 8, 8, 8, 8, 8, 8, 8, 8, 8, 8, 8, 8, 8, 8, 8, 8, 8, 8, 8, 8, 8, 8, 8, 8, 8, 8, 8, 8, 8, 8, 8, 8] }) x21) fun x22 => Ev.bnd (pConv Try.prog 5 3 x22 h_6) fun x23 =>
        Ev.bnd (pBin Try.prog Go.BinOp.add 3 (Go.Operand.tmp 19) (Go.Operand.tmp 23) y2_5 x23) fun x24 => some (x24, h_6)) fun r => r = (.int .i64 (bl x), h) := by
      intro y n hy hn hn2
      unfold F26_rlrrr
      by_cases hc : y < 256
      · have e : decide ((y : Int) ≥ 256) = false := by simp; omega
        repeat (with_reducible apply Tl.val; focus (simp only [bnd_some, bin_add, bin_sub, bin_mul, bin_lss, bin_leq, bin_gtr, bin_geq, bin_eql, bin_neq, un_not, un_neg, goInt, gd_tt, gd_ff, gd_tf, gd_ft, gd_sk, gd3_tt, gd3_ff, gd3_tf, gd3_ft, gd3_sk, Option.map_some, lt_some, pick_t, pick_f, Nat.zero_add, Bool.not_true, Bool.not_false, Bool.true_and, Bool.false_and, Bool.and_true, Bool.and_false, cond_true, cond_false, beq_self_eq_true, Int.reduceBEq, decide_true, decide_false, ld3, ld5, ld25, ld30, conv_int u30 u5, conv_int u5 u3, bin_eql_bool u4, bin_neq_bool u4, xor64u, and64u, or64u, or8, and8, e] <;> with_reducible rfl))
        with_reducible refine Tl.brF ?_
        exact last y n hc hn (by omega)
      · have e : decide ((y : Int) ≥ 256) = true := by simp; omega
        have e8 : min (8 : Int).toNat 64 = 8 := by decide
        have s : Int.fdiv (y : Int) (2 ^ 8) = ((y / 256 : Nat) : Int) := by rw [fdiv_pow _ (by decide)]; omega
        have w : IntKind.i64.wrap ((n : Int) + 8) = ((n + 8 : Nat) : Int) := by rw [wrap_i64']; split <;> omega
        have hb := bl_shift 8 y (by simp; omega)
        repeat (with_reducible apply Tl.val; focus (simp only [bnd_some, bin_add, bin_sub, bin_mul, bin_lss, bin_leq, bin_gtr, bin_geq, bin_eql, bin_neq, un_not, un_neg, goInt, gd_tt, gd_ff, gd_tf, gd_ft, gd_sk, gd3_tt, gd3_ff, gd3_tf, gd3_ft, gd3_sk, Option.map_some, lt_some, pick_t, pick_f, Nat.zero_add, Bool.not_true, Bool.not_false, Bool.true_and, Bool.false_and, Bool.and_true, Bool.and_false, cond_true, cond_false, beq_self_eq_true, Int.reduceBEq, decide_true, decide_false, ld3, ld5, ld25, ld30, conv_int u30 u5, conv_int u5 u3, bin_eql_bool u4, bin_neq_bool u4, xor64u, and64u, or64u, or8, and8, e] <;> with_reducible rfl))
        with_reducible refine Tl.brT ?_
        repeat (with_reducible apply Tl.val; focus (simp only [bnd_some, bin_add, bin_sub, bin_mul, bin_lss, bin_leq, bin_gtr, bin_geq, bin_eql, bin_neq, un_not, un_neg, goInt, gd_tt, gd_ff, gd_tf, gd_ft, gd_sk, gd3_tt, gd3_ff, gd3_tf, gd3_ft, gd3_sk, Option.map_some, lt_some, pick_t, pick_f, Nat.zero_add, Bool.not_true, Bool.not_false, Bool.true_and, Bool.false_and, Bool.and_true, Bool.and_false, cond_true, cond_false, beq_self_eq_true, Int.reduceBEq, decide_true, decide_false, ld3, ld5, ld25, ld30, conv_int u30 u5, conv_int u5 u3, bin_eql_bool u4, bin_neq_bool u4, xor64u, and64u, or64u, or8, and8, shr64u (show (0 : Int) ≤ 8 by decide), e8, s, w] <;> with_reducible rfl))
        exact last (y / 256) (n + 8) (by omega) (by simp at hb; omega) (by omega)
    have s16 : ∀ (y n : Nat), y < 4294967296 → n + bl y = bl x → n ≤ 32 → Tl (Ev.bnd (pBin Try.prog Go.BinOp.geq 30 (Go.Operand.tmp 7) (Go.Operand.const (Go.Value.int Go.IntKind.u64 65536)) (.int .u64 y) (Go.Value.int Go.IntKind.u64 65536)) fun x8 =>
        F26_rlrr (eInv env k) k (.int .u64 y) (.int .i64 (n : Int)) x8 h fun y0_1 y2_2 y8 h_3 => Ev.bnd (pBin Try.prog Go.BinOp.geq 30 (Go.Operand.tmp 13) (Go.Operand.const (Go.Value.int Go.IntKind.u64 256)) y0_1 (Go.Value.int Go.IntKind.u64 256)) fun x14 =>
        F26_rlrrr (eInv env k) k y0_1 y2_2 x14 h_3 fun y0_4 y2_5 y14 h_6 => Ev.bnd (pConv Try.prog 30 5 y0_4 h_6) fun x21 => Ev.bnd (pIndex Try.prog 9 (Go.Value.string { data := #[0, 1, 2, 2, 3, 3, 3, 3, 4, 4, 4, 4, 4, 4, 4, 4, 5, 5, 5, 5, 5, 5, 5, 5, 5, 5, 5, 5, 5, 5, 5, 5, 6, 6, 6, 6, 6, 6, 6, 6, 6, 6, 6, 6, 6, 6, 6, 6, 6, 6, 6, 6, 6, 6, 6, 6, 6, 6, 6, 6, 6, 6, 6, 6, 7, 7, 7, 7, 7, 7, 7, 7, 7, 7, 7, 7, 7, 7, 7, 7, 7, 7, 7, 7, 7, 7, 7, 7, 7, 7, 7, 7, 7, 7, 7, 7, 7, 7, 7, 7, 7, 7, 7, 7, 7, 7, 7, 7, 7, 7, 7, 7, 7, 7, 7, 7, 7, 7, 7, 7, 7, 7, 7, 7, 7, 7, 7, 7, 8, 8, 8, 8, 8, 8, 8, 8, 8, 8, 8, 8, 8, 8, 8, 8, 8, 8, 8, 8, 8, 8, 8, 8, 8, 8, 8, 8, 8, 8, 8, 8, 8, 8, 8, 8, 8, 8, 8, 8, 8, 8, 8, 8, 8, 8, 8, 8, 8, 8, 8, 8, 8, 8, 8, 8, 8, 8, 8, 8, 8, 8, 8, 8, 8, 8, 8, 8, 8, 8, 8, 8, 8, 8, 8, 8, 8, 8, 8, 8, 8, 8, 8, 8, 8, 8, 8, 8, 8, 8, 8, 8, 8, 8, 8, 8, 8, 8, 8, 8, 8, 8, 8, 8, 8, 8, 8, 8, 8, 8, 8, 8, 8, 8, 8, 8, 8, 8, 8, 8, 8, 8, 8, 8, 8, 8, 8, 8] }) x21) fun x22 => Ev.bnd (pConv Try.prog 5 3 x22 h_6) fun x23 =>
        Ev.bnd (pBin Try.prog Go.BinOp.add 3 (Go.Operand.tmp 19) (Go.Operand.tmp 23) y2_5 x23) fun x24 => some (x24, h_6)) fun r => r = (.int .i64 (bl x), h) := by
      intro y n hy hn hn2
      unfold F26_rlrr
      by_cases hc : y < 65536
      · have e : decide ((y : Int) ≥ 65536) = false := by simp; omega
        repeat (with_reducible apply Tl.val; focus (simp only [bnd_some, bin_add, bin_sub, bin_mul, bin_lss, bin_leq, bin_gtr, bin_geq, bin_eql, bin_neq, un_not, un_neg, goInt, gd_tt, gd_ff, gd_tf, gd_ft, gd_sk, gd3_tt, gd3_ff, gd3_tf, gd3_ft, gd3_sk, Option.map_some, lt_some, pick_t, pick_f, Nat.zero_add, Bool.not_true, Bool.not_false, Bool.true_and, Bool.false_and, Bool.and_true, Bool.and_false, cond_true, cond_false, beq_self_eq_true, Int.reduceBEq, decide_true, decide_false, ld3, ld5, ld25, ld30, conv_int u30 u5, conv_int u5 u3, bin_eql_bool u4, bin_neq_bool u4, xor64u, and64u, or64u, or8, and8, e] <;> with_reducible rfl))
        with_reducible refine Tl.brF ?_
        exact s8 y n hc hn (by omega)
      · have e : decide ((y : Int) ≥ 65536) = true := by simp; omega
        have e8 : min (16 : Int).toNat 64 = 16 := by decide
        have s : Int.fdiv (y : Int) (2 ^ 16) = ((y / 65536 : Nat) : Int) := by rw [fdiv_pow _ (by decide)]; omega
        have w : IntKind.i64.wrap ((n : Int) + 16) = ((n + 16 : Nat) : Int) := by rw [wrap_i64']; split <;> omega
        have hb := bl_shift 16 y (by simp; omega)
        repeat (with_reducible apply Tl.val; focus (simp only [bnd_some, bin_add, bin_sub, bin_mul, bin_lss, bin_leq, bin_gtr, bin_geq, bin_eql, bin_neq, un_not, un_neg, goInt, gd_tt, gd_ff, gd_tf, gd_ft, gd_sk, gd3_tt, gd3_ff, gd3_tf, gd3_ft, gd3_sk, Option.map_some, lt_some, pick_t, pick_f, Nat.zero_add, Bool.not_true, Bool.not_false, Bool.true_and, Bool.false_and, Bool.and_true, Bool.and_false, cond_true, cond_false, beq_self_eq_true, Int.reduceBEq, decide_true, decide_false, ld3, ld5, ld25, ld30, conv_int u30 u5, conv_int u5 u3, bin_eql_bool u4, bin_neq_bool u4, xor64u, and64u, or64u, or8, and8, e] <;> with_reducible rfl))
        with_reducible refine Tl.brT ?_
        repeat (with_reducible apply Tl.val; focus (simp only [bnd_some, bin_add, bin_sub, bin_mul, bin_lss, bin_leq, bin_gtr, bin_geq, bin_eql, bin_neq, un_not, un_neg, goInt, gd_tt, gd_ff, gd_tf, gd_ft, gd_sk, gd3_tt, gd3_ff, gd3_tf, gd3_ft, gd3_sk, Option.map_some, lt_some, pick_t, pick_f, Nat.zero_add, Bool.not_true, Bool.not_false, Bool.true_and, Bool.false_and, Bool.and_true, Bool.and_false, cond_true, cond_false, beq_self_eq_true, Int.reduceBEq, decide_true, decide_false, ld3, ld5, ld25, ld30, conv_int u30 u5, conv_int u5 u3, bin_eql_bool u4, bin_neq_bool u4, xor64u, and64u, or64u, or8, and8, shr64u (show (0 : Int) ≤ 16 by decide), e8, s, w] <;> with_reducible rfl))
        exact s8 (y / 65536) (n + 16) (by omega) (by simp at hb; omega) (by omega)
    unfold F26_rlr
    by_cases hc : x < 4294967296
    · have e : decide ((x : Int) ≥ 4294967296) = false := by simp; omega
      repeat (with_reducible apply Tl.val; focus (simp only [bnd_some, bin_add, bin_sub, bin_mul, bin_lss, bin_leq, bin_gtr, bin_geq, bin_eql, bin_neq, un_not, un_neg, goInt, gd_tt, gd_ff, gd_tf, gd_ft, gd_sk, gd3_tt, gd3_ff, gd3_tf, gd3_ft, gd3_sk, Option.map_some, lt_some, pick_t, pick_f, Nat.zero_add, Bool.not_true, Bool.not_false, Bool.true_and, Bool.false_and, Bool.and_true, Bool.and_false, cond_true, cond_false, beq_self_eq_true, Int.reduceBEq, decide_true, decide_false, ld3, ld5, ld25, ld30, conv_int u30 u5, conv_int u5 u3, bin_eql_bool u4, bin_neq_bool u4, xor64u, and64u, or64u, or8, and8, e] <;> with_reducible rfl))
      with_reducible refine Tl.brF ?_
      exact s16 x 0 hc (by omega) (by omega)
    · have e : decide ((x : Int) ≥ 4294967296) = true := by simp; omega
      have e8 : min (32 : Int).toNat 64 = 32 := by decide
      have s : Int.fdiv (x : Int) (2 ^ 32) = ((x / 4294967296 : Nat) : Int) := by rw [fdiv_pow _ (by decide)]; omega
      have hb := bl_shift 32 x (by simp; omega)
      repeat (with_reducible apply Tl.val; focus (simp only [bnd_some, bin_add, bin_sub, bin_mul, bin_lss, bin_leq, bin_gtr, bin_geq, bin_eql, bin_neq, un_not, un_neg, goInt, gd_tt, gd_ff, gd_tf, gd_ft, gd_sk, gd3_tt, gd3_ff, gd3_tf, gd3_ft, gd3_sk, Option.map_some, lt_some, pick_t, pick_f, Nat.zero_add, Bool.not_true, Bool.not_false, Bool.true_and, Bool.false_and, Bool.and_true, Bool.and_false, cond_true, cond_false, beq_self_eq_true, Int.reduceBEq, decide_true, decide_false, ld3, ld5, ld25, ld30, conv_int u30 u5, conv_int u5 u3, bin_eql_bool u4, bin_neq_bool u4, xor64u, and64u, or64u, or8, and8, e] <;> with_reducible rfl))
      with_reducible refine Tl.brT ?_
      repeat (with_reducible apply Tl.val; focus (simp only [bnd_some, bin_add, bin_sub, bin_mul, bin_lss, bin_leq, bin_gtr, bin_geq, bin_eql, bin_neq, un_not, un_neg, goInt, gd_tt, gd_ff, gd_tf, gd_ft, gd_sk, gd3_tt, gd3_ff, gd3_tf, gd3_ft, gd3_sk, Option.map_some, lt_some, pick_t, pick_f, Nat.zero_add, Bool.not_true, Bool.not_false, Bool.true_and, Bool.false_and, Bool.and_true, Bool.and_false, cond_true, cond_false, beq_self_eq_true, Int.reduceBEq, decide_true, decide_false, ld3, ld5, ld25, ld30, conv_int u30 u5, conv_int u5 u3, bin_eql_bool u4, bin_neq_bool u4, xor64u, and64u, or64u, or8, and8, shr64u (show (0 : Int) ≤ 32 by decide), e8, s] <;> with_reducible rfl))
      exact s16 (x / 4294967296) 32 (by omega) (by simp at hb; omega) (by omega)
  obtain ⟨r, h1, h2⟩ := T
  rw [F26_call, h1, h2]
/-! ### 'Width' -/
def orN (l : List Nat) : Nat := l.foldl (fun a b => a ||| b) 0
theorem orN_lt : ∀ (l : List Nat) (a : Nat) (w : Nat), l.foldl (fun a b => a ||| b) a < 2 ^ w ↔ a < 2 ^ w ∧ ∀ x ∈ l, x < 2 ^ w := by
  intro l
  induction l with
  | nil => intro a w; simp
  | cons b l ih =>
    intro a w
    rw [List.foldl_cons, ih]
    constructor
    · rintro ⟨h1, h2⟩
      have ha : a < 2 ^ w := Nat.lt_of_le_of_lt Nat.left_le_or h1
      have hb : b < 2 ^ w := Nat.lt_of_le_of_lt Nat.right_le_or h1
      refine ⟨ha, fun x hx => ?_⟩
      rcases List.mem_cons.1 hx with rfl | hx
      · exact hb
      · exact h2 x hx
    · rintro ⟨h1, h2⟩
      exact ⟨Nat.or_lt_two_pow h1 (h2 b (by simp)), fun x hx => h2 x (by simp [hx])⟩
theorem bl_le_iff (w : Nat) : ∀ v : Nat, bl v ≤ w ↔ v < 2 ^ w := by
  induction w with
  | zero =>
    intro v
    constructor
    · intro h
      by_cases hv : v = 0
      · simp [hv]
      · rw [bl_pos (by omega)] at h; omega
    · intro h; exact bl_le 0 v h
  | succ w ih =>
    intro v
    refine ⟨fun h => ?_, bl_le _ v⟩
    by_cases hv : v = 0
    · rw [hv]; exact Nat.two_pow_pos _
    · rw [bl_pos (by omega)] at h
      have := (ih (v / 2)).1 (by omega)
      rw [Nat.pow_succ]; omega
def widthN (l : List Nat) : Nat := bl (orN l)
theorem width_le (l : List Nat) (w : Nat) : widthN l ≤ w ↔ ∀ x ∈ l, x < 2 ^ w := by
  unfold widthN orN
  rw [bl_le_iff, orN_lt]
  simp [Nat.two_pow_pos]
theorem width_append (l m : List Nat) (w : Nat) : widthN (l ++ m) ≤ w ↔ widthN l ≤ w ∧ widthN m ≤ w := by
  rw [width_le, width_le, width_le]
  constructor
  · intro h; exact ⟨fun x hx => h x (by simp [hx]), fun x hx => h x (by simp [hx])⟩
  · rintro ⟨h1, h2⟩ x hx
    rcases List.mem_append.1 hx with hx | hx
    · exact h1 x hx
    · exact h2 x hx
theorem or_nat (a b : Nat) (ha : a < 18446744073709551616) (hb : b < 18446744073709551616) : IntKind.u64.wrap (BitVec.ofInt 64 (a : Int) ||| BitVec.ofInt 64 (b : Int)).toNat = ((a ||| b : Nat) : Int) := by
  rw [BitVec.toNat_or, ofInt_toNat _ (by omega) (by omega), ofInt_toNat _ (by omega) (by omega), Int.toNat_natCast, Int.toNat_natCast]
  have : a ||| b < 2 ^ 64 := Nat.or_lt_two_pow (by simpa using ha) (by simpa using hb)
  rw [wrap_u64]
  have h2 : (2 : Nat) ^ 64 = 18446744073709551616 := by decide
  omega
def ints (l : List Nat) : List Int := l.map (fun (x : Nat) => (x : Int))
theorem f15_loop {β : Type} {k : Nat} {Q : β → Prop} {h : AH} {v : Value} {l : List Nat} (S : Words h v (ints l)) (hl : l.length ≤ 2 ^ 40) (hw : ∀ x ∈ l, x < 18446744073709551616) {ke0 : Value → Value → Value → Value → Value → AH → Option β} (n : Nat) :
    ∀ {i j a : Nat}, i + n = l.length → n < j → a < 18446744073709551616 → (∀ y8 y, Tl (ke0 (.int .u64 (((l.drop i).foldl (fun a b => a ||| b) a : Nat) : Int)) v (.int .i64 l.length) y8 y h) Q) →
      Tl (F15_lrlrr (eInv env k) k j (.int .u64 (a : Int)) v (.int .i64 l.length) (.int .i64 i) h ke0) Q := by
  induction n with
  | zero =>
    intro i j a hi hj ha hk
    obtain ⟨j, rfl⟩ : ∃ q, j = q + 1 := ⟨j - 1, by omega⟩
    simp only [F15_lrlrr]
    have e : decide ((i : Int) < (l.length : Int)) = false := by simp; omega
    repeat (with_reducible apply Tl.val; focus (simp only [bnd_some, bin_add, bin_sub, bin_mul, bin_lss, bin_leq, bin_gtr, bin_geq, bin_eql, bin_neq, un_not, un_neg, goInt, gd_tt, gd_ff, gd_tf, gd_ft, gd_sk, gd3_tt, gd3_ff, gd3_tf, gd3_ft, gd3_sk, Option.map_some, lt_some, pick_t, pick_f, Nat.zero_add, Bool.not_true, Bool.not_false, Bool.true_and, Bool.false_and, Bool.and_true, Bool.and_false, cond_true, cond_false, beq_self_eq_true, Int.reduceBEq, decide_true, decide_false, ld3, ld5, ld25, ld30, conv_int u30 u5, conv_int u5 u3, bin_eql_bool u4, bin_neq_bool u4, xor64u, and64u, or64u, or8, and8, e] <;> with_reducible rfl))
    with_reducible refine Tl.brF ?_
    have := hk (.int .i64 i) (.bool false)
    rw [List.drop_eq_nil_of_le (by omega)] at this
    exact this
  | succ n ih =>
    intro i j a hi hj ha hk
    obtain ⟨j, rfl⟩ : ∃ q, j = q + 1 := ⟨j - 1, by omega⟩
    have hlt : i < l.length := by omega
    obtain ⟨c, hc⟩ : ∃ c, l[i]? = some c := ⟨_, List.getElem?_eq_getElem hlt⟩
    have hcw := hw c (List.mem_of_getElem? hc)
    obtain ⟨b, o, hx, h2⟩ := S.at_ (i := i) (c := (c : Int)) (by simp [ints, hc])
    simp only [F15_lrlrr]
    have e : decide ((i : Int) < (l.length : Int)) = true := by simp; omega
    have w1 : IntKind.i64.wrap ((i : Int) + 1) = ((i + 1 : Nat) : Int) := by rw [wrap_i64']; split <;> omega
    have o1 := or_nat a c ha hcw
    repeat (with_reducible apply Tl.val; focus (simp only [bnd_some, bin_add, bin_sub, bin_mul, bin_lss, bin_leq, bin_gtr, bin_geq, bin_eql, bin_neq, un_not, un_neg, goInt, gd_tt, gd_ff, gd_tf, gd_ft, gd_sk, gd3_tt, gd3_ff, gd3_tf, gd3_ft, gd3_sk, Option.map_some, lt_some, pick_t, pick_f, Nat.zero_add, Bool.not_true, Bool.not_false, Bool.true_and, Bool.false_and, Bool.and_true, Bool.and_false, cond_true, cond_false, beq_self_eq_true, Int.reduceBEq, decide_true, decide_false, ld3, ld5, ld25, ld30, conv_int u30 u5, conv_int u5 u3, bin_eql_bool u4, bin_neq_bool u4, xor64u, and64u, or64u, or8, and8, e] <;> with_reducible rfl))
    with_reducible refine Tl.brT ?_
    repeat (with_reducible apply Tl.val; focus (simp only [bnd_some, bin_add, bin_sub, bin_mul, bin_lss, bin_leq, bin_gtr, bin_geq, bin_eql, bin_neq, un_not, un_neg, goInt, gd_tt, gd_ff, gd_tf, gd_ft, gd_sk, gd3_tt, gd3_ff, gd3_tf, gd3_ft, gd3_sk, Option.map_some, lt_some, pick_t, pick_f, Nat.zero_add, Bool.not_true, Bool.not_false, Bool.true_and, Bool.false_and, Bool.and_true, Bool.and_false, cond_true, cond_false, beq_self_eq_true, Int.reduceBEq, decide_true, decide_false, ld3, ld5, ld25, ld30, conv_int u30 u5, conv_int u5 u3, bin_eql_bool u4, bin_neq_bool u4, xor64u, and64u, or64u, or8, and8, hx, h2, o1, w1] <;> with_reducible rfl))
    have hlt2 : a ||| c < 18446744073709551616 := by
      have := Nat.or_lt_two_pow (n := 64) (x := a) (y := c) (by simpa using ha) (by simpa using hcw)
      simpa using this
    refine ih (by omega) (by omega) hlt2 fun y8 y => ?_
    have := hk y8 y
    have hd : l.drop i = c :: l.drop (i + 1) := by
      rw [List.drop_eq_getElem_cons hlt]
      rw [List.getElem?_eq_getElem hlt] at hc
      cases hc; rfl
    rw [hd] at this
    exact this
theorem f15c {k : Nat} {h : AH} {v : Value} {l : List Nat} (S : Words h v (ints l)) (hl : l.length ≤ 2 ^ 40) (hw : ∀ x ∈ l, x < 18446744073709551616) (hk : l.length < k + 1) : eInv env (k + 2) (.func 15) #[] #[v] h = some (.int .i64 (widthN l), h) := by
  have T : Tl (F15 (eInv env (k + 1)) (k + 1) v h) fun r => r = (.int .i64 (widthN l), h) := by
    unfold F15
    have hv : ∀ h', pLen Try.prog #[22] v h' = some (.int .i64 l.length) := fun h' => by have := S.len (h' := h'); simpa [ints] using this
    repeat (with_reducible apply Tl.val; focus (simp only [bnd_some, bin_add, bin_sub, bin_mul, bin_lss, bin_leq, bin_gtr, bin_geq, bin_eql, bin_neq, un_not, un_neg, goInt, gd_tt, gd_ff, gd_tf, gd_ft, gd_sk, gd3_tt, gd3_ff, gd3_tf, gd3_ft, gd3_sk, Option.map_some, lt_some, pick_t, pick_f, Nat.zero_add, Bool.not_true, Bool.not_false, Bool.true_and, Bool.false_and, Bool.and_true, Bool.and_false, cond_true, cond_false, beq_self_eq_true, Int.reduceBEq, decide_true, decide_false, ld3, ld5, ld25, ld30, conv_int u30 u5, conv_int u5 u3, bin_eql_bool u4, bin_neq_bool u4, xor64u, and64u, or64u, or8, and8, hv] <;> with_reducible rfl))
    refine f15_loop (i := 0) (a := 0) S hl hw l.length (by omega) hk (by omega) fun y8 y => ?_
    rw [List.drop_zero]
    have hor : orN l < 18446744073709551616 := by
      have := (orN_lt l 0 64).2 ⟨by decide, fun x hx => by simpa using hw x hx⟩
      simpa [orN] using this
    have f := f26c (k := k) (orN l) hor h
    unfold orN at f
    repeat (with_reducible apply Tl.val; focus (simp only [bnd_some, bin_add, bin_sub, bin_mul, bin_lss, bin_leq, bin_gtr, bin_geq, bin_eql, bin_neq, un_not, un_neg, goInt, gd_tt, gd_ff, gd_tf, gd_ft, gd_sk, gd3_tt, gd3_ff, gd3_tf, gd3_ft, gd3_sk, Option.map_some, lt_some, pick_t, pick_f, Nat.zero_add, Bool.not_true, Bool.not_false, Bool.true_and, Bool.false_and, Bool.and_true, Bool.and_false, cond_true, cond_false, beq_self_eq_true, Int.reduceBEq, decide_true, decide_false, ld3, ld5, ld25, ld30, conv_int u30 u5, conv_int u5 u3, bin_eql_bool u4, bin_neq_bool u4, xor64u, and64u, or64u, or8, and8, f] <;> with_reducible rfl))
    exact ⟨_, rfl, rfl⟩
  obtain ⟨r, h1, h2⟩ := T
  rw [F15_call, h1, h2]
end Go.Proofs.Ytodokclcffejfaa.Sh
