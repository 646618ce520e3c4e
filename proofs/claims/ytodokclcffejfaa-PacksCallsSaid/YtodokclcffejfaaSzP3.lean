/- What the functions of the packs' package come to: 'Put'. -/
import Derived.Test.YtodokclcffejfaaSzP2
set_option linter.unusedVariables false
set_option linter.unusedSimpArgs false
set_option maxRecDepth 100000
namespace Go.Proofs.Ytodokclcffejfaa.Sh
open Go Go.RowKit Go.Proofs.Ev

theorem f23c {k : Nat} {n w : Nat} (hn : n ≤ 65536) (hw : w ≤ 64) (h : AH) : eInv env (k + 1) (.func 23) #[] #[.int .i64 n, .int .i64 w] h = some (.bool true, h) := by
  have T : Tl (F23 (eInv env k) k (.int .i64 n) (.int .i64 w) h) fun r => r = (.bool true, h) := by
    unfold F23
    have e1 : decide ((n : Int) ≥ 0) = true := by simp
    have e2 : decide ((n : Int) ≤ 65536) = true := by simp; omega
    have e3 : decide ((w : Int) ≥ 0) = true := by simp
    have e4 : decide ((w : Int) ≤ 64) = true := by simp; omega
    repeat (with_reducible apply Tl.val; focus (simp only [bnd_some, bin_add, bin_sub, bin_mul, bin_lss, bin_leq, bin_gtr, bin_geq, bin_eql, bin_neq, un_not, un_neg, goInt, gd_tt, gd_ff, gd_tf, gd_ft, gd_sk, gd3_tt, gd3_ff, gd3_tf, gd3_ft, gd3_sk, Option.map_some, lt_some, pick_t, pick_f, Nat.zero_add, Bool.not_true, Bool.not_false, Bool.true_and, Bool.false_and, Bool.and_true, Bool.and_false, cond_true, cond_false, beq_self_eq_true, Int.reduceBEq, decide_true, decide_false, ld3, ld5, ld25, ld30, conv_int u30 u5, conv_int u5 u3, bin_eql_bool u4, bin_neq_bool u4, xor64u, and64u, or64u, or8, and8, e1, e2, e3, e4] <;> with_reducible rfl))
    exact ⟨_, rfl, rfl⟩
  obtain ⟨r, h1, h2⟩ := T
  rw [F23_call, h1, h2]
def sizeN (n w : Nat) : Nat := (n * w + 7) / 8
theorem f16c {k : Nat} {n w : Nat} (hn : n ≤ 65536) (hw : w ≤ 64) (h : AH) : eInv env (k + 2) (.func 16) #[] #[.int .i64 n, .int .i64 w] h = some (.int .i64 (sizeN n w), h) := by
  have hm : n * w ≤ 65536 * 64 := Nat.mul_le_mul hn hw
  have T : Tl (F16 (eInv env (k + 1)) (k + 1) (.int .i64 n) (.int .i64 w) h) fun r => r = (.int .i64 (sizeN n w), h) := by
    unfold F16
    have e0 := f23c (k := k) hn hw h
    have e1 : IntKind.i64.wrap ((n : Int) * (w : Int)) = ((n * w : Nat) : Int) := by
      have : (n : Int) * (w : Int) = ((n * w : Nat) : Int) := by simp
      rw [this, wrap_i64']; split <;> omega
    have e2 : IntKind.i64.wrap (((n * w : Nat) : Int) + 8) = ((n * w + 8 : Nat) : Int) := by rw [wrap_i64']; split <;> omega
    have e3 : IntKind.i64.wrap (((n * w + 8 : Nat) : Int) - 1) = ((n * w + 7 : Nat) : Int) := by rw [wrap_i64']; split <;> omega
    have e4 : IntKind.i64.wrap (((n * w + 7 : Nat) : Int).tdiv 8) = ((sizeN n w : Nat) : Int) := by
      have : ((n * w + 7 : Nat) : Int).tdiv 8 = ((sizeN n w : Nat) : Int) := by
        rw [Int.tdiv_eq_ediv_of_nonneg (by omega)]; unfold sizeN; omega
      have hs : sizeN n w ≤ 600000 := by unfold sizeN; omega
      rw [this, wrap_i64']; split <;> omega
    repeat (with_reducible apply Tl.val; focus (simp only [bnd_some, bin_add, bin_sub, bin_mul, bin_lss, bin_leq, bin_gtr, bin_geq, bin_eql, bin_neq, un_not, un_neg, goInt, gd_tt, gd_ff, gd_tf, gd_ft, gd_sk, gd3_tt, gd3_ff, gd3_tf, gd3_ft, gd3_sk, Option.map_some, lt_some, pick_t, pick_f, Nat.zero_add, Bool.not_true, Bool.not_false, Bool.true_and, Bool.false_and, Bool.and_true, Bool.and_false, cond_true, cond_false, beq_self_eq_true, Int.reduceBEq, decide_true, decide_false, ld3, ld5, ld25, ld30, conv_int u30 u5, conv_int u5 u3, bin_eql_bool u4, bin_neq_bool u4, xor64u, and64u, or64u, or8, and8, e0] <;> with_reducible rfl))
    with_reducible refine Tl.brF ?_
    repeat (with_reducible apply Tl.val; focus (simp only [bnd_some, bin_add, bin_sub, bin_mul, bin_lss, bin_leq, bin_gtr, bin_geq, bin_eql, bin_neq, un_not, un_neg, goInt, gd_tt, gd_ff, gd_tf, gd_ft, gd_sk, gd3_tt, gd3_ff, gd3_tf, gd3_ft, gd3_sk, Option.map_some, lt_some, pick_t, pick_f, Nat.zero_add, Bool.not_true, Bool.not_false, Bool.true_and, Bool.false_and, Bool.and_true, Bool.and_false, cond_true, cond_false, beq_self_eq_true, Int.reduceBEq, decide_true, decide_false, ld3, ld5, ld25, ld30, conv_int u30 u5, conv_int u5 u3, bin_eql_bool u4, bin_neq_bool u4, xor64u, and64u, or64u, or8, and8, e1, e2, e3, bin_quo (show (8 : Int) ≠ 0 by decide), e4] <;> with_reducible rfl))
    exact ⟨_, rfl, rfl⟩
  obtain ⟨r, h1, h2⟩ := T
  rw [F16_call, h1, h2]
theorem mk25 (S : Nat) (hS : S ≤ 2 ^ 20) (h : AH) : pMakeSlice Try.prog 25 (.int .i64 0) (.int .i64 S) h = some (.slice (some ⟨h.n, 0, none⟩) 0 S, h.alloc (.cells (List.replicate S (.int .u8 0)) 5 true)) := by
  have el : elemT Try.prog 25 = some 5 := el25
  unfold pMakeSlice
  rw [el]
  simp only [sz5, app25.byt, ze5]
  rw [if_pos ⟨by omega, by omega, by omega, by omega, rfl, rfl⟩]
  have : (List.replicate (S : Int).toNat (Value.int IntKind.u8 0).cells.toList).flatten = List.replicate S (.int .u8 0) := by
    simp only [Int.toNat_natCast, Value.cells]
    induction S with
    | zero => rfl
    | succ S ih => rw [List.replicate_succ, List.flatten_cons, ih (by omega), List.replicate_succ]; rfl
  rw [this]
  simp
def putS (w : Nat) (l : List Int) : List Int := let s := (allBits w l).foldl bitS ⟨[], 0, 0⟩; if s.n > 0 then s.out ++ [s.held] else s.out
theorem flat_u8l (l : List Int) : (l.map brow).flatten = u8l l := by
  unfold u8l
  induction l with
  | nil => rfl
  | cons a l ih => simp only [List.map_cons, List.flatten_cons, ih]; rfl
theorem slX_of {h : AH} {b : Nat} {l : List Int} (hg : h.get b = some (.cells (u8l l) 5 true)) : SlX Try.prog h (.slice (some ⟨b, 0, none⟩) l.length l.length) 1 b (l.map brow) := by
  refine ⟨by simp, ⟨⟨_, 5, hg, fun _ => ⟨by simp [u8l], ?_⟩⟩, ?_⟩, szOk_of hg sz5⟩
  · rw [flat_u8l, List.drop_zero, List.take_of_length_le (by simp [u8l])]
  · intro r hr
    obtain ⟨a, _, rfl⟩ := List.mem_map.1 hr
    rfl
/-- 'Put'. -/
theorem f10 {k : Nat} {h : AH} {v : Value} {l : List Nat} {w : Nat} (A : Words h v (ints l)) (hl : l.length ≤ 65536) (hlk : l.length < k + 299) (hw : w ≤ 64) (hx : ∀ x ∈ l, x < 18446744073709551616) :
    Tl (F10 (eInv env (k + 300)) (k + 300) v (.int .i64 w) h) fun r =>
      (w < widthN l ∧ r.1 = .tuple #[.slice none 0 0, .int .i64 3] ∧ Grow h r.2) ∨
      (widthN l ≤ w ∧ ∃ v' b, r.1 = .tuple #[v', .int .i64 0] ∧ SlX Try.prog r.2 v' 1 b ((putS w (ints l)).map brow) ∧ h.n ≤ b ∧ Grow h r.2) := by
  unfold F10
  have hv : ∀ h', pLen Try.prog #[22] v h' = some (.int .i64 l.length) := fun h' => by have := A.len (h' := h'); simpa [ints] using this
  have may := f23c (k := k + 299) (n := l.length) (w := w) (by omega) hw h
  have wid := f15c (k := k + 298) A (by omega) hx (by omega)
  have siz := f16c (k := k + 298) (n := l.length) (w := w) (by omega) hw h
  repeat (with_reducible apply Tl.val; focus (simp only [bnd_some, bin_add, bin_sub, bin_mul, bin_lss, bin_leq, bin_gtr, bin_geq, bin_eql, bin_neq, un_not, un_neg, goInt, gd_tt, gd_ff, gd_tf, gd_ft, gd_sk, gd3_tt, gd3_ff, gd3_tf, gd3_ft, gd3_sk, Option.map_some, lt_some, pick_t, pick_f, Nat.zero_add, Bool.not_true, Bool.not_false, Bool.true_and, Bool.false_and, Bool.and_true, Bool.and_false, cond_true, cond_false, beq_self_eq_true, Int.reduceBEq, decide_true, decide_false, ld3, ld5, ld25, ld30, conv_int u30 u5, conv_int u5 u3, bin_eql_bool u4, bin_neq_bool u4, xor64u, and64u, or64u, or8, and8, hv, may] <;> with_reducible rfl))
  with_reducible refine Tl.brF ?_
  cases q : decide ((widthN l : Int) > (w : Int))
  case true =>
    repeat (with_reducible apply Tl.val; focus (simp only [bnd_some, bin_add, bin_sub, bin_mul, bin_lss, bin_leq, bin_gtr, bin_geq, bin_eql, bin_neq, un_not, un_neg, goInt, gd_tt, gd_ff, gd_tf, gd_ft, gd_sk, gd3_tt, gd3_ff, gd3_tf, gd3_ft, gd3_sk, Option.map_some, lt_some, pick_t, pick_f, Nat.zero_add, Bool.not_true, Bool.not_false, Bool.true_and, Bool.false_and, Bool.and_true, Bool.and_false, cond_true, cond_false, beq_self_eq_true, Int.reduceBEq, decide_true, decide_false, ld3, ld5, ld25, ld30, conv_int u30 u5, conv_int u5 u3, bin_eql_bool u4, bin_neq_bool u4, xor64u, and64u, or64u, or8, and8, wid, q] <;> with_reducible rfl))
    with_reducible refine Tl.brT ?_
    exact ⟨_, rfl, .inl ⟨by simp at q; omega, rfl, Grow.refl _⟩⟩
  have hle : widthN l ≤ w := by simp at q; omega
  have hm : l.length * w ≤ 65536 * 64 := Nat.mul_le_mul hl hw
  have hS : sizeN l.length w ≤ 2 ^ 20 := by unfold sizeN; omega
  repeat (with_reducible apply Tl.val; focus (simp only [bnd_some, bin_add, bin_sub, bin_mul, bin_lss, bin_leq, bin_gtr, bin_geq, bin_eql, bin_neq, un_not, un_neg, goInt, gd_tt, gd_ff, gd_tf, gd_ft, gd_sk, gd3_tt, gd3_ff, gd3_tf, gd3_ft, gd3_sk, Option.map_some, lt_some, pick_t, pick_f, Nat.zero_add, Bool.not_true, Bool.not_false, Bool.true_and, Bool.false_and, Bool.and_true, Bool.and_false, cond_true, cond_false, beq_self_eq_true, Int.reduceBEq, decide_true, decide_false, ld3, ld5, ld25, ld30, conv_int u30 u5, conv_int u5 u3, bin_eql_bool u4, bin_neq_bool u4, xor64u, and64u, or64u, or8, and8, wid, q] <;> with_reducible rfl))
  with_reducible refine Tl.brF ?_
  repeat (with_reducible apply Tl.val; focus (simp only [bnd_some, bin_add, bin_sub, bin_mul, bin_lss, bin_leq, bin_gtr, bin_geq, bin_eql, bin_neq, un_not, un_neg, goInt, gd_tt, gd_ff, gd_tf, gd_ft, gd_sk, gd3_tt, gd3_ff, gd3_tf, gd3_ft, gd3_sk, Option.map_some, lt_some, pick_t, pick_f, Nat.zero_add, Bool.not_true, Bool.not_false, Bool.true_and, Bool.false_and, Bool.and_true, Bool.and_false, cond_true, cond_false, beq_self_eq_true, Int.reduceBEq, decide_true, decide_false, ld3, ld5, ld25, ld30, conv_int u30 u5, conv_int u5 u3, bin_eql_bool u4, bin_neq_bool u4, xor64u, and64u, or64u, or8, and8, hv, siz] <;> with_reducible rfl))
  refine Tl.val (mk25 (sizeN l.length w) hS h) ?_
  have S0 := (Sta.init h).alloc (.cells (List.replicate (sizeN l.length w) (.int .u8 0)) 5 true)
  refine Tl.alloc S0 ze25 rfl fun bo h1 S1 _ => ?_
  refine Tl.store S1 0 rfl sz25 rfl rfl (of_decide_eq_true rfl) fun h2 S2 => ?_
  refine Tl.alloc S2 ze5 rfl fun bh h3 S3 _ => ?_
  refine Tl.alloc S3 ze3 rfl fun bn h4 S4 _ => ?_
  refine Tl.store S4 0 rfl sz3 rfl rfl (of_decide_eq_true rfl) fun h5 S5 => ?_
  have T5 : PutSt h.n h h5 bn bh bo h.n (sizeN l.length w) ⟨[], 0, 0⟩ := ⟨List.replicate (sizeN l.length w) (.int .u8 0), by simp, S5⟩
  have mf : pMakeFunc (Go.Fn.func 24) #[] #[.pointer (some ⟨bh, 0, none⟩), .pointer (some ⟨bn, 0, none⟩), .pointer (some ⟨bo, 0, none⟩)] = some (bitFn bh bn bo) := rfl
  have hcap : 0 + (ints l).length * w ≤ 8 * sizeN l.length w := by
    simp only [ints, List.length_map]
    unfold sizeN; omega
  have hll : (ints l).length = l.length := by simp [ints]
  repeat (with_reducible apply Tl.val; focus (simp only [bnd_some, bin_add, bin_sub, bin_mul, bin_lss, bin_leq, bin_gtr, bin_geq, bin_eql, bin_neq, un_not, un_neg, goInt, gd_tt, gd_ff, gd_tf, gd_ft, gd_sk, gd3_tt, gd3_ff, gd3_tf, gd3_ft, gd3_sk, Option.map_some, lt_some, pick_t, pick_f, Nat.zero_add, Bool.not_true, Bool.not_false, Bool.true_and, Bool.false_and, Bool.and_true, Bool.and_false, cond_true, cond_false, beq_self_eq_true, Int.reduceBEq, decide_true, decide_false, ld3, ld5, ld25, ld30, conv_int u30 u5, conv_int u5 u3, bin_eql_bool u4, bin_neq_bool u4, xor64u, and64u, or64u, or8, and8, mf, hv] <;> with_reducible rfl))
  rw [show ((l.length : Nat) : Int) = (((ints l).length : Nat) : Int) by rw [hll]]
  refine outer (k := k + 299) A (by rw [hll]; omega) hw (by omega) (ints l).length (i := 0) (j := k + 300) (by omega) (by rw [hll]; omega) (by decide) (by simpa [PS.cnt] using hcap) T5 fun y31 y32 h6 T6 => ?_
  rw [List.drop_zero] at T6
  obtain ⟨c1, c2⟩ := fold_cnt (allBits w (ints l)) ⟨[], 0, 0⟩ (by decide)
  rw [allBits_len, hll] at c1
  have hput : putS w (ints l) = if ((allBits w (ints l)).foldl bitS ⟨[], 0, 0⟩).n > 0 then ((allBits w (ints l)).foldl bitS ⟨[], 0, 0⟩).out ++ [((allBits w (ints l)).foldl bitS ⟨[], 0, 0⟩).held] else ((allBits w (ints l)).foldl bitS ⟨[], 0, 0⟩).out := rfl
  generalize (allBits w (ints l)).foldl bitS ⟨[], 0, 0⟩ = s at T6 c1 c2 hput
  have c1 : 8 * s.out.length + s.n = l.length * w := by simpa [PS.cnt] using c1
  obtain ⟨pad, hp, S6⟩ := T6
  have cn : h6.cell bn 0 = some (.int .i64 (s.n : Int)) := (Ev.cell_of (S6.mem.at_ (i := 0) rfl)).trans rfl
  have ch : h6.cell bh 0 = some (.int .u8 s.held) := (Ev.cell_of (S6.mem.at_ (i := 1) rfl)).trans rfl
  have co : h6.cell bo 0 = some (.slice (some ⟨h.n, 0, none⟩) s.out.length (sizeN l.length w)) := (Ev.cell_of (S6.mem.at_ (i := 2) rfl)).trans rfl
  unfold pt F10_rlrrrrrrr
  by_cases q1 : s.n = 0
  · have e : decide ((s.n : Int) > 0) = false := by simp; omega
    repeat (with_reducible apply Tl.val; focus (simp only [bnd_some, bin_add, bin_sub, bin_mul, bin_lss, bin_leq, bin_gtr, bin_geq, bin_eql, bin_neq, un_not, un_neg, goInt, gd_tt, gd_ff, gd_tf, gd_ft, gd_sk, gd3_tt, gd3_ff, gd3_tf, gd3_ft, gd3_sk, Option.map_some, lt_some, pick_t, pick_f, Nat.zero_add, Bool.not_true, Bool.not_false, Bool.true_and, Bool.false_and, Bool.and_true, Bool.and_false, cond_true, cond_false, beq_self_eq_true, Int.reduceBEq, decide_true, decide_false, ld3, ld5, ld25, ld30, conv_int u30 u5, conv_int u5 u3, bin_eql_bool u4, bin_neq_bool u4, xor64u, and64u, or64u, or8, and8, cn, e] <;> with_reducible rfl))
    with_reducible refine Tl.brF ?_
    repeat (with_reducible apply Tl.val; focus (simp only [bnd_some, bin_add, bin_sub, bin_mul, bin_lss, bin_leq, bin_gtr, bin_geq, bin_eql, bin_neq, un_not, un_neg, goInt, gd_tt, gd_ff, gd_tf, gd_ft, gd_sk, gd3_tt, gd3_ff, gd3_tf, gd3_ft, gd3_sk, Option.map_some, lt_some, pick_t, pick_f, Nat.zero_add, Bool.not_true, Bool.not_false, Bool.true_and, Bool.false_and, Bool.and_true, Bool.and_false, cond_true, cond_false, beq_self_eq_true, Int.reduceBEq, decide_true, decide_false, ld3, ld5, ld25, ld30, conv_int u30 u5, conv_int u5 u3, bin_eql_bool u4, bin_neq_bool u4, xor64u, and64u, or64u, or8, and8, co] <;> with_reducible rfl))
    refine ⟨_, rfl, .inr ⟨hle, _, h.n, rfl, ?_, Nat.le_refl _, S6.done⟩⟩
    rw [hput, if_neg (by omega)]
    have hlen : s.out.length = sizeN l.length w := by unfold sizeN; omega
    have hpad : pad = [] := List.length_eq_zero_iff.1 (by omega)
    have hg := S6.mem.at_ (i := 3) rfl
    rw [hpad, List.append_nil] at hg
    rw [← hlen]
    exact slX_of hg
  · have e : decide ((s.n : Int) > 0) = true := by simp; omega
    repeat (with_reducible apply Tl.val; focus (simp only [bnd_some, bin_add, bin_sub, bin_mul, bin_lss, bin_leq, bin_gtr, bin_geq, bin_eql, bin_neq, un_not, un_neg, goInt, gd_tt, gd_ff, gd_tf, gd_ft, gd_sk, gd3_tt, gd3_ff, gd3_tf, gd3_ft, gd3_sk, Option.map_some, lt_some, pick_t, pick_f, Nat.zero_add, Bool.not_true, Bool.not_false, Bool.true_and, Bool.false_and, Bool.and_true, Bool.and_false, cond_true, cond_false, beq_self_eq_true, Int.reduceBEq, decide_true, decide_false, ld3, ld5, ld25, ld30, conv_int u30 u5, conv_int u5 u3, bin_eql_bool u4, bin_neq_bool u4, xor64u, and64u, or64u, or8, and8, cn, e] <;> with_reducible rfl))
    with_reducible refine Tl.brT ?_
    repeat (with_reducible apply Tl.val; focus (simp only [bnd_some, bin_add, bin_sub, bin_mul, bin_lss, bin_leq, bin_gtr, bin_geq, bin_eql, bin_neq, un_not, un_neg, goInt, gd_tt, gd_ff, gd_tf, gd_ft, gd_sk, gd3_tt, gd3_ff, gd3_tf, gd3_ft, gd3_sk, Option.map_some, lt_some, pick_t, pick_f, Nat.zero_add, Bool.not_true, Bool.not_false, Bool.true_and, Bool.false_and, Bool.and_true, Bool.and_false, cond_true, cond_false, beq_self_eq_true, Int.reduceBEq, decide_true, decide_false, ld3, ld5, ld25, ld30, conv_int u30 u5, conv_int u5 u3, bin_eql_bool u4, bin_neq_bool u4, xor64u, and64u, or64u, or8, and8, co, ch, bs25] <;> with_reducible rfl))
    have S7 := S6.alloc (.cells [.int .u8 s.held] 5 true)
    have hcap : s.out.length < sizeN l.length w := by unfold sizeN; omega
    obtain ⟨p, pad', rfl⟩ : ∃ p pad', pad = p :: pad' := by
      cases pad with
      | nil => simp at hp; omega
      | cons p pad' => exact ⟨p, pad', rfl⟩
    have hg4 := S7.mem.at_ (i := 4) rfl
    have hg0 := S7.mem.at_ (i := 0) rfl
    have ap := app_in (n := s.out.length) (cap := sizeN l.length w) hg4 (by simp [u8l] at hp ⊢; omega) hcap hg0
    simp only at ap
    rw [splice_pad] at ap
    refine Tl.val ap ?_
    have S8 := (S7.set 4 rfl (.cells (u8l (s.out ++ [s.held]) ++ pad') 5 true)).drop
    refine Tl.store S8 2 rfl sz25 rfl rfl (of_decide_eq_true rfl) fun h9 S9 => ?_
    have co9 : h9.cell bo 0 = some (.slice (some ⟨h.n, 0, none⟩) (s.out.length + 1) (sizeN l.length w)) := (Ev.cell_of (S9.mem.at_ (i := 2) rfl)).trans rfl
    repeat (with_reducible apply Tl.val; focus (simp only [bnd_some, bin_add, bin_sub, bin_mul, bin_lss, bin_leq, bin_gtr, bin_geq, bin_eql, bin_neq, un_not, un_neg, goInt, gd_tt, gd_ff, gd_tf, gd_ft, gd_sk, gd3_tt, gd3_ff, gd3_tf, gd3_ft, gd3_sk, Option.map_some, lt_some, pick_t, pick_f, Nat.zero_add, Bool.not_true, Bool.not_false, Bool.true_and, Bool.false_and, Bool.and_true, Bool.and_false, cond_true, cond_false, beq_self_eq_true, Int.reduceBEq, decide_true, decide_false, ld3, ld5, ld25, ld30, conv_int u30 u5, conv_int u5 u3, bin_eql_bool u4, bin_neq_bool u4, xor64u, and64u, or64u, or8, and8, co9] <;> with_reducible rfl))
    refine ⟨_, rfl, .inr ⟨hle, _, h.n, rfl, ?_, Nat.le_refl _, S9.done⟩⟩
    rw [hput, if_pos (by omega)]
    have hlen : s.out.length + 1 = sizeN l.length w := by unfold sizeN; omega
    have hpad : pad' = [] := List.length_eq_zero_iff.1 (by simp at hp; omega)
    have hg := S9.mem.at_ (i := 3) rfl
    rw [hpad] at hg
    have hg : h9.get h.n = some (.cells (u8l (s.out ++ [s.held])) 5 true) := by simpa using hg
    have := slX_of hg
    rw [← hlen]
    simpa using this
end Go.Proofs.Ytodokclcffejfaa.Sh
