/- 'Put', 'Get', told by numbers; there and back. -/
import Derived.Test.YtodokclcffejfaaSzP9
set_option linter.unusedVariables false
set_option linter.unusedSimpArgs false
set_option maxRecDepth 100000
namespace Go.Proofs.Ytodokclcffejfaa.Sh
open Go Go.RowKit Go.Proofs.Ev

theorem slV_kn {P : Program} {h : AH} {v : Value} {n : Nat} {rows : List (List Value)} (S : SlV P h v n rows) : kn v = true ∧ oneCell v = true := by
  rcases S with ⟨rfl, _⟩ | ⟨b, o, c, own, rfl, _⟩ <;> exact ⟨rfl, rfl⟩
theorem Bytes.kn {h : AH} {v : Value} {l : List Int} (S : Bytes h v l) : kn v = true ∧ oneCell v = true := slV_kn (P := Try.prog) (n := 1) (rows := l.map brow) S
theorem Words.kn {h : AH} {v : Value} {l : List Int} (S : Words h v l) : kn v = true ∧ oneCell v = true := slV_kn (P := Try.prog) (n := 1) (rows := l.map wrow) S
def putE (l : List Nat) (n : Int) : Int := if mayB l.length n = false then 2 else if widthN l > n.toNat then 3 else 0
def putL (l : List Nat) (n : Int) : List Nat := if putE l n = 0 then putN n.toNat l else []
theorem f10g {k : Nat} {h : AH} {v : Value} {l : List Nat} (A : Words h v (ints l)) (hl : l.length ≤ 65536) (hlk : l.length < k + 299) (hx : ∀ x ∈ l, x < 18446744073709551616) (n : Int) :
    Tl (eInv env (k + 301) (.func 10) #[] #[v, .int .i64 n] h) fun r => ∃ o, r.1 = .tuple #[o, .int .i64 (putE l n)] ∧ Grow h r.2 ∧ OwnB Try.prog h.n r.2 o 1 ((ints (putL l n)).map brow) := by
  have hv : ∀ h', pLen Try.prog #[22] v h' = some (.int .i64 l.length) := fun h' => by have := A.len (h' := h'); simpa [ints] using this
  by_cases q : mayB l.length n = true
  · obtain ⟨N, w, e0, rfl, hN, hW⟩ := mayB_nat q
    obtain ⟨r, e1, e2⟩ := f10 A hl hlk hW hx
    rw [F10_call]
    refine ⟨r, e1, ?_⟩
    unfold putL putE
    rw [q]
    simp only [Int.toNat_natCast, Bool.true_eq_false, if_false]
    rcases e2 with ⟨a, b, c⟩ | ⟨a, v', b, e, X, hb, g⟩
    · rw [if_pos a]
      exact ⟨_, b, c, .inl ⟨rfl, rfl⟩⟩
    · rw [if_neg (by omega)]
      refine ⟨_, e, g, .inr ⟨b, hb, ?_⟩⟩
      rw [if_pos rfl, ← putS_nat w l hx]
      exact X
  · have q' : mayB l.length n = false := by simpa using q
    rw [F10_call]
    unfold F10
    have may := f23g (k := k + 299) (l.length : Int) n h
    rw [q'] at may
    repeat (with_reducible apply Tl.val; focus (simp only [bnd_some, bin_add, bin_sub, bin_mul, bin_lss, bin_leq, bin_gtr, bin_geq, bin_eql, bin_neq, un_not, un_neg, goInt, gd_tt, gd_ff, gd_tf, gd_ft, gd_sk, gd3_tt, gd3_ff, gd3_tf, gd3_ft, gd3_sk, Option.map_some, lt_some, pick_t, pick_f, Nat.zero_add, Bool.not_true, Bool.not_false, Bool.true_and, Bool.false_and, Bool.and_true, Bool.and_false, cond_true, cond_false, beq_self_eq_true, Int.reduceBEq, decide_true, decide_false, ld3, ld5, ld22, ld25, ld30, conv_int u30 u5, conv_int u5 u3, conv_int u5 u30, bin_eql_bool u4, bin_neq_bool u4, xor64u, and64u, or64u, or8, and8, ex0, ex1, hv, may] <;> with_reducible rfl))
    with_reducible refine Tl.brT ?_
    have pe : putE l n = 2 := by unfold putE; rw [if_pos q']
    refine ⟨_, rfl, .slice none 0 0, by rw [pe], Grow.refl _, ?_⟩
    unfold putL
    rw [pe]
    exact .inl ⟨rfl, rfl⟩
/-! ### There and back -/
theorem two64 : (2 : Nat) ^ 64 = 18446744073709551616 := by decide
theorem width64 {l : List Nat} (hx : ∀ x ∈ l, x < 18446744073709551616) : widthN l ≤ 64 := by
  rw [width_le, two64]
  exact hx
theorem putE_of {l : List Nat} {W : Nat} (hl : l.length ≤ 65536) (hW : W ≤ 64) (hw : widthN l ≤ W) : putE l (W : Int) = 0 := by
  unfold putE
  rw [if_neg (by rw [mayB_mk hl hW]; simp), if_neg (by simp only [Int.toNat_natCast]; omega)]
theorem putE_iff {l : List Nat} (hl : l.length ≤ 65536) (n : Int) : (putE l n == 0) = (decide (n ≥ (widthN l : Int)) && decide (n ≤ 64)) := by
  unfold putE
  by_cases q : mayB l.length n = true
  · obtain ⟨N, w, e0, rfl, hN, hW⟩ := mayB_nat q
    rw [q]
    simp only [Int.toNat_natCast, Bool.true_eq_false, if_false]
    by_cases h : widthN l > w
    · rw [if_pos h]
      have : ¬ (w : Int) ≥ (widthN l : Int) := by omega
      simp [this]
    · rw [if_neg h]
      have h1 : (w : Int) ≥ (widthN l : Int) := by omega
      have h2 : (w : Int) ≤ 64 := by omega
      simp [h1, h2]
  · have q' : mayB l.length n = false := by simpa using q
    rw [if_pos q']
    unfold mayB at q'
    by_cases h1 : n ≥ (widthN l : Int)
    · by_cases h2 : n ≤ 64
      · have a : ((l.length : Nat) : Int) ≥ 0 := by omega
        have b : ((l.length : Nat) : Int) ≤ 65536 := by omega
        have c : n ≥ 0 := by omega
        simp [a, b, c, h2] at q'
      · simp [h2]
    · simp [h1]
theorem there {l : List Nat} {W : Nat} (hl : l.length ≤ 65536) (hW : W ≤ 64) (hw : widthN l ≤ W) : checkE (putN W l) (l.length : Int) (W : Int) = 0 ∧ getN (putN W l) (l.length : Int) (W : Int) = l := by
  obtain ⟨s1, s2, s3⟩ := putN_spec W l
  have c : checkE (putN W l) (l.length : Int) (W : Int) = 0 := by
    unfold checkE
    simp only [Int.toNat_natCast]
    rw [if_neg (by rw [mayB_mk hl hW]; simp), if_neg (by rw [s2]; simp [sizeN]), s1]
    have z := Nat.div_eq_of_lt (woN_lt W l)
    simp [z]
  refine ⟨c, ?_⟩
  unfold getN
  rw [if_pos c, s1]
  simp only [Int.toNat_natCast]
  exact digs_woN W l ((width_le l W).1 hw)
theorem back {bs : List Nat} {n w : Int} (hb : ∀ x ∈ bs, x < 256) (q : checkE bs n w = 0) : ∃ N W : Nat, n = (N : Int) ∧ w = (W : Int) ∧ N ≤ 65536 ∧ W ≤ 64 ∧ (getN bs n w).length = N ∧ widthN (getN bs n w) ≤ W ∧ putN W (getN bs n w) = bs := by
  obtain ⟨N, W, rfl, rfl, hN, hW, hs, hz⟩ := checkE_zero q
  have hg : getN bs (N : Int) (W : Int) = digs W (byN bs) N := by
    unfold getN
    rw [if_pos q]
    simp
  rw [hg]
  refine ⟨N, W, rfl, rfl, hN, hW, digs_len _ _ _, (width_le _ _).2 (digs_lt _ _ _), ?_⟩
  have hlt : byN bs < 2 ^ (8 * bs.length) := by
    have := byN_lt bs hb
    rw [show (256 : Nat) = 2 ^ 8 by decide, ← Nat.pow_mul] at this
    exact this
  have hNW : N * W ≤ 8 * bs.length := by unfold sizeN at hs; omega
  have hlt2 : byN bs / 2 ^ (N * W) < 2 ^ (8 * bs.length - N * W) := by
    rw [Nat.div_lt_iff_lt_mul (Nat.two_pow_pos _), ← Nat.pow_add]
    rw [show 8 * bs.length - N * W + N * W = 8 * bs.length by omega]
    exact hlt
  rw [Nat.mod_eq_of_lt hlt2] at hz
  have hlt3 : byN bs < 2 ^ (N * W) := by
    rcases Nat.div_eq_zero_iff.1 hz with h | h
    · exact absurd h (Nat.pos_iff_ne_zero.1 (Nat.two_pow_pos _))
    · exact h
  obtain ⟨s1, s2, s3⟩ := putN_spec W (digs W (byN bs) N)
  rw [digs_len] at s2
  refine byN_inj _ _ s3 hb (by rw [s2, hs]; rfl) ?_
  rw [s1, woN_digs W N _ hlt3]
theorem getN_lt {bs : List Nat} {n w : Int} : ∀ x ∈ getN bs n w, x < 18446744073709551616 := by
  intro x hx
  unfold getN at hx
  by_cases q : checkE bs n w = 0
  · rw [if_pos q] at hx
    obtain ⟨N, W, rfl, rfl, hN, hW, hs, hz⟩ := checkE_zero q
    have := digs_lt _ _ _ x hx
    simp only [Int.toNat_natCast] at this
    have h2 : 2 ^ W ≤ 2 ^ 64 := Nat.pow_le_pow_right (by decide) hW
    rw [two64] at h2
    omega
  · rw [if_neg q] at hx; cases hx
theorem f14_loop {β : Type} {k : Nat} {Q : β → Prop} {h : AH} {v w : Value} {l : List Int} (A : Words h v l) (B : Words h w l) (hl : l.length ≤ 2 ^ 40) {ke0 : Value → Value → Value → Value → AH → Option β} {kr : Value → AH → Option β}
    (hk : ∀ y5 y, Tl (ke0 v w y5 y h) Q) (n : Nat) : ∀ {i j : Nat}, i + n = l.length → n < j → Tl (F14_lrlrr (eInv env k) k j v w (.int .i64 i) h ke0 kr) Q := by
  have hlen : ∀ h', pLen Try.prog #[22] v h' = some (.int .i64 l.length) := fun h' => A.len
  induction n with
  | zero =>
    intro i j hi hj
    obtain ⟨j, rfl⟩ : ∃ q, j = q + 1 := ⟨j - 1, by omega⟩
    simp only [F14_lrlrr]
    have e : decide ((i : Int) < (l.length : Int)) = false := by simp; omega
    repeat (with_reducible apply Tl.val; focus (simp only [bnd_some, bin_add, bin_sub, bin_mul, bin_lss, bin_leq, bin_gtr, bin_geq, bin_eql, bin_neq, un_not, un_neg, goInt, gd_tt, gd_ff, gd_tf, gd_ft, gd_sk, gd3_tt, gd3_ff, gd3_tf, gd3_ft, gd3_sk, Option.map_some, lt_some, pick_t, pick_f, Nat.zero_add, Bool.not_true, Bool.not_false, Bool.true_and, Bool.false_and, Bool.and_true, Bool.and_false, cond_true, cond_false, beq_self_eq_true, Int.reduceBEq, decide_true, decide_false, ld3, ld5, ld22, ld25, ld30, conv_int u30 u5, conv_int u5 u3, conv_int u5 u30, bin_eql_bool u4, bin_neq_bool u4, xor64u, and64u, or64u, or8, and8, ex0, ex1, hlen, e] <;> with_reducible rfl))
    with_reducible refine Tl.brF ?_
    exact hk _ _
  | succ n ih =>
    intro i j hi hj
    obtain ⟨j, rfl⟩ : ∃ q, j = q + 1 := ⟨j - 1, by omega⟩
    have hlt : i < l.length := by omega
    obtain ⟨c, hc⟩ : ∃ c, l[i]? = some c := ⟨_, List.getElem?_eq_getElem hlt⟩
    obtain ⟨b, o, hx, h2⟩ := A.at_ hc
    obtain ⟨b', o', hx', h2'⟩ := B.at_ hc
    simp only [F14_lrlrr]
    have e : decide ((i : Int) < (l.length : Int)) = true := by simp; omega
    have w1 : IntKind.i64.wrap ((i : Int) + 1) = ((i + 1 : Nat) : Int) := by rw [wrap_i64']; split <;> omega
    have ne : (c != c) = false := by simp
    repeat (with_reducible apply Tl.val; focus (simp only [bnd_some, bin_add, bin_sub, bin_mul, bin_lss, bin_leq, bin_gtr, bin_geq, bin_eql, bin_neq, un_not, un_neg, goInt, gd_tt, gd_ff, gd_tf, gd_ft, gd_sk, gd3_tt, gd3_ff, gd3_tf, gd3_ft, gd3_sk, Option.map_some, lt_some, pick_t, pick_f, Nat.zero_add, Bool.not_true, Bool.not_false, Bool.true_and, Bool.false_and, Bool.and_true, Bool.and_false, cond_true, cond_false, beq_self_eq_true, Int.reduceBEq, decide_true, decide_false, ld3, ld5, ld22, ld25, ld30, conv_int u30 u5, conv_int u5 u3, conv_int u5 u30, bin_eql_bool u4, bin_neq_bool u4, xor64u, and64u, or64u, or8, and8, ex0, ex1, hlen, e] <;> with_reducible rfl))
    with_reducible refine Tl.brT ?_
    repeat (with_reducible apply Tl.val; focus (simp only [bnd_some, bin_add, bin_sub, bin_mul, bin_lss, bin_leq, bin_gtr, bin_geq, bin_eql, bin_neq, un_not, un_neg, goInt, gd_tt, gd_ff, gd_tf, gd_ft, gd_sk, gd3_tt, gd3_ff, gd3_tf, gd3_ft, gd3_sk, Option.map_some, lt_some, pick_t, pick_f, Nat.zero_add, Bool.not_true, Bool.not_false, Bool.true_and, Bool.false_and, Bool.and_true, Bool.and_false, cond_true, cond_false, beq_self_eq_true, Int.reduceBEq, decide_true, decide_false, ld3, ld5, ld22, ld25, ld30, conv_int u30 u5, conv_int u5 u3, conv_int u5 u30, bin_eql_bool u4, bin_neq_bool u4, xor64u, and64u, or64u, or8, and8, ex0, ex1, hx, h2, hx', h2', ne] <;> with_reducible rfl))
    with_reducible refine Tl.brF ?_
    repeat (with_reducible apply Tl.val; focus (simp only [bnd_some, bin_add, bin_sub, bin_mul, bin_lss, bin_leq, bin_gtr, bin_geq, bin_eql, bin_neq, un_not, un_neg, goInt, gd_tt, gd_ff, gd_tf, gd_ft, gd_sk, gd3_tt, gd3_ff, gd3_tf, gd3_ft, gd3_sk, Option.map_some, lt_some, pick_t, pick_f, Nat.zero_add, Bool.not_true, Bool.not_false, Bool.true_and, Bool.false_and, Bool.and_true, Bool.and_false, cond_true, cond_false, beq_self_eq_true, Int.reduceBEq, decide_true, decide_false, ld3, ld5, ld22, ld25, ld30, conv_int u30 u5, conv_int u5 u3, conv_int u5 u30, bin_eql_bool u4, bin_neq_bool u4, xor64u, and64u, or64u, or8, and8, ex0, ex1, w1] <;> with_reducible rfl))
    exact ih (by omega) (by omega)
theorem f14c {k : Nat} {h : AH} {v w : Value} {l : List Int} (A : Words h v l) (B : Words h w l) (hl : l.length ≤ 2 ^ 40) (hk : l.length < k) : eInv env (k + 1) (.func 14) #[] #[v, w] h = some (.bool true, h) := by
  have hv : ∀ h', pLen Try.prog #[22] v h' = some (.int .i64 l.length) := fun h' => A.len
  have hw : ∀ h', pLen Try.prog #[22] w h' = some (.int .i64 l.length) := fun h' => B.len
  have T : Tl (F14 (eInv env k) k v w h) fun r => r = (.bool true, h) := by
    unfold F14
    have ne : (((l.length : Nat) : Int) != ((l.length : Nat) : Int)) = false := by simp
    repeat (with_reducible apply Tl.val; focus (simp only [bnd_some, bin_add, bin_sub, bin_mul, bin_lss, bin_leq, bin_gtr, bin_geq, bin_eql, bin_neq, un_not, un_neg, goInt, gd_tt, gd_ff, gd_tf, gd_ft, gd_sk, gd3_tt, gd3_ff, gd3_tf, gd3_ft, gd3_sk, Option.map_some, lt_some, pick_t, pick_f, Nat.zero_add, Bool.not_true, Bool.not_false, Bool.true_and, Bool.false_and, Bool.and_true, Bool.and_false, cond_true, cond_false, beq_self_eq_true, Int.reduceBEq, decide_true, decide_false, ld3, ld5, ld22, ld25, ld30, conv_int u30 u5, conv_int u5 u3, conv_int u5 u30, bin_eql_bool u4, bin_neq_bool u4, xor64u, and64u, or64u, or8, and8, ex0, ex1, hv, hw, ne] <;> with_reducible rfl))
    with_reducible refine Tl.brF ?_
    refine f14_loop A B hl ?_ l.length (i := 0) (by omega) hk
    intro y5 y
    exact ⟨_, rfl, rfl⟩
  obtain ⟨r, h1, h2⟩ := T
  rw [F14_call, h1, h2]
end Go.Proofs.Ytodokclcffejfaa.Sh
