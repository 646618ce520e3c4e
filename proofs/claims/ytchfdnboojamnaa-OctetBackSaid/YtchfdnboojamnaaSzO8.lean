/- What the functions of the octet's package come to: 'Var', 'Number', 'Left', 'Put' of eight bytes; their arithmetic. -/
import Derived.Test.YtchfdnboojamnaaSzO7
set_option linter.unusedVariables false
set_option linter.unusedSimpArgs false
set_option maxRecDepth 100000
namespace Go.Proofs.Ytchfdnboojamnaa.Sh
open Go Go.RowKit Go.Proofs.Ev

/-- A reader that has nothing: of nil bytes. -/
def Rdr0 (h : AH) (br : Nat) : Prop := h.get br = some (.cells [.slice none 0 0] 47 true)
/-- What 'Var' does to a reader. -/
theorem f13 {k : Nat} {h : AH} {br bb : Nat} {l : List Nat} (R : Rdr h br (ints l) bb) (hne : br ≠ bb) (hl : l.length ≤ 2 ^ 30) (hb : ∀ x ∈ l, x < 256) (hk : l.length < k) :
    Tl (eInv env (k + 6) (.func 13) #[] #[.pointer (some ⟨br, 0, none⟩)] h) fun r =>
      (∃ v rest, dec 0 0 l = some (v, rest) ∧ r.1 = .tuple #[.int .u64 (v : Int), .int .i64 0] ∧ Rdr r.2 br (ints rest) bb ∧ r.2.n = h.n ∧ ∀ q, q ≠ br → r.2.get q = h.get q) ∨
      (dec 0 0 l = none ∧ ∃ e, e ≠ 0 ∧ r = (.tuple #[.int .u64 0, .int .i64 e], h)) := by
  obtain ⟨b, o, cc, hg, hcc, hbb, Li, hz⟩ := R.box
  have il : (ints l).length = l.length := by simp [ints]
  rw [il] at hg hcc
  have hbb' := hbb
  subst hbb
  have A : Bytes h (.slice (some ⟨b, o, none⟩) l.length cc) (ints l) := .inr ⟨b, o, cc, true, by simp [ints], by simpa [ints] using hcc, Li⟩
  have c0 : h.cell br 0 = some (.slice (some ⟨b, o, none⟩) l.length cc) := (Ev.cell_of hg).trans rfl
  have ll : ∀ h', pLen Try.prog #[25] (.slice (some ⟨b, o, none⟩) l.length cc) h' = some (.int .i64 l.length) := fun h' => len_slice u25
  obtain ⟨eb, he⟩ := f21c (k := k + 1) hg A (by omega) (by omega)
  rw [F13_call]
  unfold F13
  repeat (with_reducible apply Tl.val; focus (simp only [bnd_some, bin_add, bin_sub, bin_mul, bin_lss, bin_leq, bin_gtr, bin_geq, bin_eql, bin_neq, un_not, un_neg, goInt, gd_tt, gd_ff, gd_tf, gd_ft, gd_sk, gd3_tt, gd3_ff, gd3_tf, gd3_ft, gd3_sk, Option.map_some, lt_some, pick_t, pick_f, Nat.zero_add, Bool.not_true, Bool.not_false, Bool.true_and, Bool.false_and, Bool.and_true, Bool.and_false, cond_true, cond_false, beq_self_eq_true, Int.reduceBEq, decide_true, decide_false, ld2, ld3, ld5, ld23, ld25, ld47, fa47_0, conv_int u2 u23, conv_int u23 u2, conv_int u23 u5, conv_int u5 u23, bin_eql_bool u4, xor64u, xor64i, and64u, or64u, or8, and8, nil32, ptr32, sl25, nilc, ex0, ex1] <;> with_reducible rfl))
  with_reducible refine Tl.brF ?_
  repeat (with_reducible apply Tl.val; focus (simp only [bnd_some, bin_add, bin_sub, bin_mul, bin_lss, bin_leq, bin_gtr, bin_geq, bin_eql, bin_neq, un_not, un_neg, goInt, gd_tt, gd_ff, gd_tf, gd_ft, gd_sk, gd3_tt, gd3_ff, gd3_tf, gd3_ft, gd3_sk, Option.map_some, lt_some, pick_t, pick_f, Nat.zero_add, Bool.not_true, Bool.not_false, Bool.true_and, Bool.false_and, Bool.and_true, Bool.and_false, cond_true, cond_false, beq_self_eq_true, Int.reduceBEq, decide_true, decide_false, ld2, ld3, ld5, ld23, ld25, ld47, fa47_0, conv_int u2 u23, conv_int u23 u2, conv_int u23 u5, conv_int u5 u23, bin_eql_bool u4, xor64u, xor64i, and64u, or64u, or8, and8, nil32, ptr32, sl25, nilc, ex0, ex1, c0, ll] <;> with_reducible rfl))
  unfold F13_rlrr
  refine f13_loop hg hcc rfl Li hz hne (by omega) hb l.length (i := 0) (acc := 0) (by omega) (by omega) (by omega) (by simp) ?_ ?_
  · intro v rest h' hd R' hn' ho
    rw [List.drop_zero] at hd
    exact ⟨_, rfl, .inl ⟨v, rest, hd, rfl, R', hn', ho⟩⟩
  · intro hd y2 y4 y5 y6 y12 y13 y14 y15 y20 y29 y43
    rw [List.drop_zero] at hd
    cases eb
    · repeat (with_reducible apply Tl.val; focus (simp only [bnd_some, bin_add, bin_sub, bin_mul, bin_lss, bin_leq, bin_gtr, bin_geq, bin_eql, bin_neq, un_not, un_neg, goInt, gd_tt, gd_ff, gd_tf, gd_ft, gd_sk, gd3_tt, gd3_ff, gd3_tf, gd3_ft, gd3_sk, Option.map_some, lt_some, pick_t, pick_f, Nat.zero_add, Bool.not_true, Bool.not_false, Bool.true_and, Bool.false_and, Bool.and_true, Bool.and_false, cond_true, cond_false, beq_self_eq_true, Int.reduceBEq, decide_true, decide_false, ld2, ld3, ld5, ld23, ld25, ld47, fa47_0, conv_int u2 u23, conv_int u23 u2, conv_int u23 u5, conv_int u5 u23, bin_eql_bool u4, xor64u, xor64i, and64u, or64u, or8, and8, nil32, ptr32, sl25, nilc, ex0, ex1, he] <;> with_reducible rfl))
      with_reducible refine Tl.brF ?_
      exact ⟨_, rfl, .inr ⟨hd, 4, by decide, rfl⟩⟩
    · repeat (with_reducible apply Tl.val; focus (simp only [bnd_some, bin_add, bin_sub, bin_mul, bin_lss, bin_leq, bin_gtr, bin_geq, bin_eql, bin_neq, un_not, un_neg, goInt, gd_tt, gd_ff, gd_tf, gd_ft, gd_sk, gd3_tt, gd3_ff, gd3_tf, gd3_ft, gd3_sk, Option.map_some, lt_some, pick_t, pick_f, Nat.zero_add, Bool.not_true, Bool.not_false, Bool.true_and, Bool.false_and, Bool.and_true, Bool.and_false, cond_true, cond_false, beq_self_eq_true, Int.reduceBEq, decide_true, decide_false, ld2, ld3, ld5, ld23, ld25, ld47, fa47_0, conv_int u2 u23, conv_int u23 u2, conv_int u23 u5, conv_int u5 u23, bin_eql_bool u4, xor64u, xor64i, and64u, or64u, or8, and8, nil32, ptr32, sl25, nilc, ex0, ex1, he] <;> with_reducible rfl))
      with_reducible refine Tl.brT ?_
      exact ⟨_, rfl, .inr ⟨hd, 7, by decide, rfl⟩⟩
theorem bytes_nil (h : AH) : Bytes h (.slice none 0 0) [] := .inl ⟨rfl, rfl⟩
theorem f13z {k : Nat} {h : AH} {br : Nat} (R : Rdr0 h br) : Tl (eInv env (k + 10) (.func 13) #[] #[.pointer (some ⟨br, 0, none⟩)] h) fun r => ∃ e, e ≠ 0 ∧ r = (.tuple #[.int .u64 0, .int .i64 e], h) := by
  have c0 : h.cell br 0 = some (.slice none 0 0) := (Ev.cell_of R).trans rfl
  have ll : ∀ h', pLen Try.prog #[25] (.slice none 0 0) h' = some (.int .i64 0) := fun h' => len_slice u25
  obtain ⟨eb, he⟩ := f21c (k := k + 5) R (bytes_nil h) (by simp) (by simp)
  have e0 : decide ((0 : Int) < 0) = false := by decide
  rw [F13_call]
  unfold F13
  repeat (with_reducible apply Tl.val; focus (simp only [bnd_some, bin_add, bin_sub, bin_mul, bin_lss, bin_leq, bin_gtr, bin_geq, bin_eql, bin_neq, un_not, un_neg, goInt, gd_tt, gd_ff, gd_tf, gd_ft, gd_sk, gd3_tt, gd3_ff, gd3_tf, gd3_ft, gd3_sk, Option.map_some, lt_some, pick_t, pick_f, Nat.zero_add, Bool.not_true, Bool.not_false, Bool.true_and, Bool.false_and, Bool.and_true, Bool.and_false, cond_true, cond_false, beq_self_eq_true, Int.reduceBEq, decide_true, decide_false, ld2, ld3, ld5, ld23, ld25, ld47, fa47_0, conv_int u2 u23, conv_int u23 u2, conv_int u23 u5, conv_int u5 u23, bin_eql_bool u4, xor64u, xor64i, and64u, or64u, or8, and8, nil32, ptr32, sl25, nilc, ex0, ex1] <;> with_reducible rfl))
  with_reducible refine Tl.brF ?_
  repeat (with_reducible apply Tl.val; focus (simp only [bnd_some, bin_add, bin_sub, bin_mul, bin_lss, bin_leq, bin_gtr, bin_geq, bin_eql, bin_neq, un_not, un_neg, goInt, gd_tt, gd_ff, gd_tf, gd_ft, gd_sk, gd3_tt, gd3_ff, gd3_tf, gd3_ft, gd3_sk, Option.map_some, lt_some, pick_t, pick_f, Nat.zero_add, Bool.not_true, Bool.not_false, Bool.true_and, Bool.false_and, Bool.and_true, Bool.and_false, cond_true, cond_false, beq_self_eq_true, Int.reduceBEq, decide_true, decide_false, ld2, ld3, ld5, ld23, ld25, ld47, fa47_0, conv_int u2 u23, conv_int u23 u2, conv_int u23 u5, conv_int u5 u23, bin_eql_bool u4, xor64u, xor64i, and64u, or64u, or8, and8, nil32, ptr32, sl25, nilc, ex0, ex1, c0, ll] <;> with_reducible rfl))
  unfold F13_rlrr
  simp only [F13_lrlrr]
  repeat (with_reducible apply Tl.val; focus (simp only [bnd_some, bin_add, bin_sub, bin_mul, bin_lss, bin_leq, bin_gtr, bin_geq, bin_eql, bin_neq, un_not, un_neg, goInt, gd_tt, gd_ff, gd_tf, gd_ft, gd_sk, gd3_tt, gd3_ff, gd3_tf, gd3_ft, gd3_sk, Option.map_some, lt_some, pick_t, pick_f, Nat.zero_add, Bool.not_true, Bool.not_false, Bool.true_and, Bool.false_and, Bool.and_true, Bool.and_false, cond_true, cond_false, beq_self_eq_true, Int.reduceBEq, decide_true, decide_false, ld2, ld3, ld5, ld23, ld25, ld47, fa47_0, conv_int u2 u23, conv_int u23 u2, conv_int u23 u5, conv_int u5 u23, bin_eql_bool u4, xor64u, xor64i, and64u, or64u, or8, and8, nil32, ptr32, sl25, nilc, ex0, ex1, e0] <;> with_reducible rfl))
  with_reducible refine Tl.brF ?_
  cases eb
  · repeat (with_reducible apply Tl.val; focus (simp only [bnd_some, bin_add, bin_sub, bin_mul, bin_lss, bin_leq, bin_gtr, bin_geq, bin_eql, bin_neq, un_not, un_neg, goInt, gd_tt, gd_ff, gd_tf, gd_ft, gd_sk, gd3_tt, gd3_ff, gd3_tf, gd3_ft, gd3_sk, Option.map_some, lt_some, pick_t, pick_f, Nat.zero_add, Bool.not_true, Bool.not_false, Bool.true_and, Bool.false_and, Bool.and_true, Bool.and_false, cond_true, cond_false, beq_self_eq_true, Int.reduceBEq, decide_true, decide_false, ld2, ld3, ld5, ld23, ld25, ld47, fa47_0, conv_int u2 u23, conv_int u23 u2, conv_int u23 u5, conv_int u5 u23, bin_eql_bool u4, xor64u, xor64i, and64u, or64u, or8, and8, nil32, ptr32, sl25, nilc, ex0, ex1, he] <;> with_reducible rfl))
    with_reducible refine Tl.brF ?_
    exact ⟨_, rfl, 4, by decide, rfl⟩
  · repeat (with_reducible apply Tl.val; focus (simp only [bnd_some, bin_add, bin_sub, bin_mul, bin_lss, bin_leq, bin_gtr, bin_geq, bin_eql, bin_neq, un_not, un_neg, goInt, gd_tt, gd_ff, gd_tf, gd_ft, gd_sk, gd3_tt, gd3_ff, gd3_tf, gd3_ft, gd3_sk, Option.map_some, lt_some, pick_t, pick_f, Nat.zero_add, Bool.not_true, Bool.not_false, Bool.true_and, Bool.false_and, Bool.and_true, Bool.and_false, cond_true, cond_false, beq_self_eq_true, Int.reduceBEq, decide_true, decide_false, ld2, ld3, ld5, ld23, ld25, ld47, fa47_0, conv_int u2 u23, conv_int u23 u2, conv_int u23 u5, conv_int u5 u23, bin_eql_bool u4, xor64u, xor64i, and64u, or64u, or8, and8, nil32, ptr32, sl25, nilc, ex0, ex1, he] <;> with_reducible rfl))
    with_reducible refine Tl.brT ?_
    exact ⟨_, rfl, 7, by decide, rfl⟩
/-- 'Number' of eight bytes. -/
theorem f14 {k : Nat} {h : AH} {br bb : Nat} {l : List Nat} (R : Rdr h br (ints l) bb) (hne : br ≠ bb) (hn : 8 ≤ l.length) (hb : ∀ x ∈ l, x < 256) :
    Tl (eInv env (k + 23) (.func 14) #[] #[.pointer (some ⟨br, 0, none⟩), .int .i64 8] h) fun r => r.1 = .tuple #[.int .u64 (ofB (l.take 8) : Int), .int .i64 0] ∧ Rdr r.2 br (ints (l.drop 8)) bb ∧ h.n ≤ r.2.n ∧ ∀ q, q < h.n → q ≠ br → r.2.get q = h.get q := by
  rw [F14_call]
  unfold F14
  have e1 : decide ((8 : Int) < 1) = false := by decide
  have e2 : decide ((8 : Int) > 8) = false := by decide
  repeat (with_reducible apply Tl.val; focus (simp only [bnd_some, bin_add, bin_sub, bin_mul, bin_lss, bin_leq, bin_gtr, bin_geq, bin_eql, bin_neq, un_not, un_neg, goInt, gd_tt, gd_ff, gd_tf, gd_ft, gd_sk, gd3_tt, gd3_ff, gd3_tf, gd3_ft, gd3_sk, Option.map_some, lt_some, pick_t, pick_f, Nat.zero_add, Bool.not_true, Bool.not_false, Bool.true_and, Bool.false_and, Bool.and_true, Bool.and_false, cond_true, cond_false, beq_self_eq_true, Int.reduceBEq, decide_true, decide_false, ld2, ld3, ld5, ld23, ld25, ld47, fa47_0, conv_int u2 u23, conv_int u23 u2, conv_int u23 u5, conv_int u5 u23, bin_eql_bool u4, xor64u, xor64i, and64u, or64u, or8, and8, nil32, ptr32, sl25, nilc, ex0, ex1] <;> with_reducible rfl))
  with_reducible refine Tl.brF ?_
  repeat (with_reducible apply Tl.val; focus (simp only [bnd_some, bin_add, bin_sub, bin_mul, bin_lss, bin_leq, bin_gtr, bin_geq, bin_eql, bin_neq, un_not, un_neg, goInt, gd_tt, gd_ff, gd_tf, gd_ft, gd_sk, gd3_tt, gd3_ff, gd3_tf, gd3_ft, gd3_sk, Option.map_some, lt_some, pick_t, pick_f, Nat.zero_add, Bool.not_true, Bool.not_false, Bool.true_and, Bool.false_and, Bool.and_true, Bool.and_false, cond_true, cond_false, beq_self_eq_true, Int.reduceBEq, decide_true, decide_false, ld2, ld3, ld5, ld23, ld25, ld47, fa47_0, conv_int u2 u23, conv_int u23 u2, conv_int u23 u5, conv_int u5 u23, bin_eql_bool u4, xor64u, xor64i, and64u, or64u, or8, and8, nil32, ptr32, sl25, nilc, ex0, ex1, e1, e2] <;> with_reducible rfl))
  with_reducible refine Tl.brF ?_
  have T := f22 (k := k + 21) R hne (n := 8) (by simpa [ints] using hn)
  rw [← F22_call] at T
  with_reducible refine Tl.seq T ?_
  rintro ⟨x, h1⟩ ⟨b, o, e1, B, R1, g1, n1⟩
  simp only at e1 B R1 g1 n1
  subst e1
  have it : (ints l).take 8 = ints (l.take 8) := by simp [ints]
  have id : (ints l).drop 8 = ints (l.drop 8) := by simp [ints]
  rw [it] at B
  rw [id] at R1
  repeat (with_reducible apply Tl.val; focus (simp only [bnd_some, bin_add, bin_sub, bin_mul, bin_lss, bin_leq, bin_gtr, bin_geq, bin_eql, bin_neq, un_not, un_neg, goInt, gd_tt, gd_ff, gd_tf, gd_ft, gd_sk, gd3_tt, gd3_ff, gd3_tf, gd3_ft, gd3_sk, Option.map_some, lt_some, pick_t, pick_f, Nat.zero_add, Bool.not_true, Bool.not_false, Bool.true_and, Bool.false_and, Bool.and_true, Bool.and_false, cond_true, cond_false, beq_self_eq_true, Int.reduceBEq, decide_true, decide_false, ld2, ld3, ld5, ld23, ld25, ld47, fa47_0, conv_int u2 u23, conv_int u23 u2, conv_int u23 u5, conv_int u5 u23, bin_eql_bool u4, xor64u, xor64i, and64u, or64u, or8, and8, nil32, ptr32, sl25, nilc, ex0, ex1] <;> with_reducible rfl))
  have F := f19 (k := k + 1) B (by simp; omega) (fun x hx => hb x (List.mem_of_mem_take hx)) rfl rfl
  rw [← F19_call] at F
  with_reducible refine Tl.seq F ?_
  rintro ⟨y, h2⟩ ⟨e2, g2⟩
  simp only at e2 g2
  subst e2
  obtain ⟨b', o', c', q1, q2, q3, q4, q5⟩ := R1.box
  have hbr := AH.get_lt q1
  refine ⟨_, rfl, rfl, ⟨b', o', c', (g2.2 _ hbr).trans q1, q2, q3, q4.grow (g2.2 _ q4.lt), ?_⟩, by rw [← n1]; exact g2.1, fun q hq hqb => (g2.2 q (by rw [n1]; exact hq)).trans (g1 q hqb)⟩
  unfold szOk at q5 ⊢
  simp only at q5 ⊢
  rw [g2.2 _ q4.lt]; exact q5
/-- 'Left'. -/
theorem f15 {k : Nat} {h : AH} {br bb : Nat} {l : List Int} (R : Rdr h br l bb) : eInv env (k + 1) (.func 15) #[] #[.pointer (some ⟨br, 0, none⟩)] h = some (.int .i64 l.length, h) := by
  obtain ⟨b, o, cc, hg, hcc, hbb, Li, hz⟩ := R.box
  have c0 : h.cell br 0 = some (.slice (some ⟨b, o, none⟩) l.length cc) := (Ev.cell_of hg).trans rfl
  have ll : ∀ h', pLen Try.prog #[25] (.slice (some ⟨b, o, none⟩) l.length cc) h' = some (.int .i64 l.length) := fun h' => len_slice u25
  have T : Tl (F15 (eInv env k) k (.pointer (some ⟨br, 0, none⟩)) h) fun r => r = (.int .i64 l.length, h) := by
    unfold F15
    repeat (with_reducible apply Tl.val; focus (simp only [bnd_some, bin_add, bin_sub, bin_mul, bin_lss, bin_leq, bin_gtr, bin_geq, bin_eql, bin_neq, un_not, un_neg, goInt, gd_tt, gd_ff, gd_tf, gd_ft, gd_sk, gd3_tt, gd3_ff, gd3_tf, gd3_ft, gd3_sk, Option.map_some, lt_some, pick_t, pick_f, Nat.zero_add, Bool.not_true, Bool.not_false, Bool.true_and, Bool.false_and, Bool.and_true, Bool.and_false, cond_true, cond_false, beq_self_eq_true, Int.reduceBEq, decide_true, decide_false, ld2, ld3, ld5, ld23, ld25, ld47, fa47_0, conv_int u2 u23, conv_int u23 u2, conv_int u23 u5, conv_int u5 u23, bin_eql_bool u4, xor64u, xor64i, and64u, or64u, or8, and8, nil32, ptr32, sl25, nilc, ex0, ex1] <;> with_reducible rfl))
    with_reducible refine Tl.brF ?_
    repeat (with_reducible apply Tl.val; focus (simp only [bnd_some, bin_add, bin_sub, bin_mul, bin_lss, bin_leq, bin_gtr, bin_geq, bin_eql, bin_neq, un_not, un_neg, goInt, gd_tt, gd_ff, gd_tf, gd_ft, gd_sk, gd3_tt, gd3_ff, gd3_tf, gd3_ft, gd3_sk, Option.map_some, lt_some, pick_t, pick_f, Nat.zero_add, Bool.not_true, Bool.not_false, Bool.true_and, Bool.false_and, Bool.and_true, Bool.and_false, cond_true, cond_false, beq_self_eq_true, Int.reduceBEq, decide_true, decide_false, ld2, ld3, ld5, ld23, ld25, ld47, fa47_0, conv_int u2 u23, conv_int u23 u2, conv_int u23 u5, conv_int u5 u23, bin_eql_bool u4, xor64u, xor64i, and64u, or64u, or8, and8, nil32, ptr32, sl25, nilc, ex0, ex1, c0, ll] <;> with_reducible rfl))
    exact ⟨_, rfl, rfl⟩
  obtain ⟨r, h1, h2⟩ := T
  rw [F15_call, h1, h2]
theorem f15z {k : Nat} {h : AH} {br : Nat} (R : Rdr0 h br) : eInv env (k + 1) (.func 15) #[] #[.pointer (some ⟨br, 0, none⟩)] h = some (.int .i64 0, h) := by
  have c0 : h.cell br 0 = some (.slice none 0 0) := (Ev.cell_of R).trans rfl
  have ll : ∀ h', pLen Try.prog #[25] (.slice none 0 0) h' = some (.int .i64 0) := fun h' => len_slice u25
  have T : Tl (F15 (eInv env k) k (.pointer (some ⟨br, 0, none⟩)) h) fun r => r = (.int .i64 0, h) := by
    unfold F15
    repeat (with_reducible apply Tl.val; focus (simp only [bnd_some, bin_add, bin_sub, bin_mul, bin_lss, bin_leq, bin_gtr, bin_geq, bin_eql, bin_neq, un_not, un_neg, goInt, gd_tt, gd_ff, gd_tf, gd_ft, gd_sk, gd3_tt, gd3_ff, gd3_tf, gd3_ft, gd3_sk, Option.map_some, lt_some, pick_t, pick_f, Nat.zero_add, Bool.not_true, Bool.not_false, Bool.true_and, Bool.false_and, Bool.and_true, Bool.and_false, cond_true, cond_false, beq_self_eq_true, Int.reduceBEq, decide_true, decide_false, ld2, ld3, ld5, ld23, ld25, ld47, fa47_0, conv_int u2 u23, conv_int u23 u2, conv_int u23 u5, conv_int u5 u23, bin_eql_bool u4, xor64u, xor64i, and64u, or64u, or8, and8, nil32, ptr32, sl25, nilc, ex0, ex1] <;> with_reducible rfl))
    with_reducible refine Tl.brF ?_
    repeat (with_reducible apply Tl.val; focus (simp only [bnd_some, bin_add, bin_sub, bin_mul, bin_lss, bin_leq, bin_gtr, bin_geq, bin_eql, bin_neq, un_not, un_neg, goInt, gd_tt, gd_ff, gd_tf, gd_ft, gd_sk, gd3_tt, gd3_ff, gd3_tf, gd3_ft, gd3_sk, Option.map_some, lt_some, pick_t, pick_f, Nat.zero_add, Bool.not_true, Bool.not_false, Bool.true_and, Bool.false_and, Bool.and_true, Bool.and_false, cond_true, cond_false, beq_self_eq_true, Int.reduceBEq, decide_true, decide_false, ld2, ld3, ld5, ld23, ld25, ld47, fa47_0, conv_int u2 u23, conv_int u23 u2, conv_int u23 u5, conv_int u5 u23, bin_eql_bool u4, xor64u, xor64i, and64u, or64u, or8, and8, nil32, ptr32, sl25, nilc, ex0, ex1, c0, ll] <;> with_reducible rfl))
    exact ⟨_, rfl, rfl⟩
  obtain ⟨r, h1, h2⟩ := T
  rw [F15_call, h1, h2]
/-- 'New' of nil. -/
theorem f12z {k : Nat} (h : AH) : Tl (eInv env (k + 2) (.func 12) #[] #[.slice none 0 0] h) fun r => ∃ br, r.1 = .pointer (some ⟨br, 0, none⟩) ∧ Rdr0 r.2 br ∧ h.n ≤ br ∧ Grow h r.2 := by
  have e20 : eInv env (k + 1) (.func 20) #[] #[.slice none 0 0] h = some (.slice none 0 0, h) := by
    rw [F20_call]
    unfold F20
    simp only [nsl25, bnd_some, brV_true]
  rw [F12_call]
  unfold F12
  have bd := bd47 (.slice none 0 0) rfl rfl
  repeat (with_reducible apply Tl.val; focus (simp only [bnd_some, bin_add, bin_sub, bin_mul, bin_lss, bin_leq, bin_gtr, bin_geq, bin_eql, bin_neq, un_not, un_neg, goInt, gd_tt, gd_ff, gd_tf, gd_ft, gd_sk, gd3_tt, gd3_ff, gd3_tf, gd3_ft, gd3_sk, Option.map_some, lt_some, pick_t, pick_f, Nat.zero_add, Bool.not_true, Bool.not_false, Bool.true_and, Bool.false_and, Bool.and_true, Bool.and_false, cond_true, cond_false, beq_self_eq_true, Int.reduceBEq, decide_true, decide_false, ld2, ld3, ld5, ld23, ld25, ld47, fa47_0, conv_int u2 u23, conv_int u23 u2, conv_int u23 u5, conv_int u5 u23, bin_eql_bool u4, xor64u, xor64i, and64u, or64u, or8, and8, nil32, ptr32, sl25, nilc, ex0, ex1, e20, bd] <;> with_reducible rfl))
  refine Tl.box (Sta.init h) rfl is47 fun br h2 S2 g2 => ?_
  exact ⟨_, rfl, br, rfl, S2.mem.at_ (i := 0) rfl, S2.new _ (List.mem_cons_self ..), g2⟩
/-! ### 'Put' of eight bytes -/
def le (x : Nat) : Nat → Nat → List Nat
  | _, 0 => []
  | i, r + 1 => x / 2 ^ (8 * i) % 256 :: le x (i + 1) r
theorem le_lt (x : Nat) : ∀ (r i : Nat), ∀ y ∈ le x i r, y < 256 := by
  intro r
  induction r with
  | zero => intro i y hy; cases hy
  | succ r ih =>
    intro i y hy
    rcases List.mem_cons.1 hy with rfl | hy
    · exact Nat.mod_lt _ (by decide)
    · exact ih _ y hy
theorem le_len (x : Nat) : ∀ (r i : Nat), (le x i r).length = r := by
  intro r
  induction r with
  | zero => intro i; rfl
  | succ r ih => intro i; simp [le, ih]
theorem ofB_le (x : Nat) : ∀ (r i : Nat), ofB (le x i r) = x / 2 ^ (8 * i) % 256 ^ r := by
  intro r
  induction r with
  | zero => intro i; simp [le, ofB, Nat.mod_one]
  | succ r ih =>
    intro i
    have : ofB (le x i (r + 1)) = ofB (le x (i + 1) r) * 256 + x / 2 ^ (8 * i) % 256 := rfl
    rw [this, ih]
    have e : x / 2 ^ (8 * (i + 1)) = x / 2 ^ (8 * i) / 256 := by
      rw [Nat.div_div_eq_div_mul, Nat.mul_succ, Nat.pow_add]
    rw [e, Nat.pow_succ, Nat.mul_comm (256 ^ r) 256, Nat.mod_mul]
    omega
theorem f11_loop {β : Type} {k : Nat} {Q : β → Prop} {n0 : Nat} {x : Nat} {ke0 : Value → Value → Value → Value → Value → AH → Option β} (r : Nat) :
    ∀ {i j : Nat} {h : AH} {v : Value} {l : List Int}, i + r = 8 → r < j → OB n0 h v l → n0 ≤ h.n → l.length + r ≤ 2 ^ 30 →
      (∀ h' v' y16 y, GrowFrom n0 h h' → n0 ≤ h'.n → OB n0 h' v' (l ++ ints (le x i r)) → Tl (ke0 v' (.int .u64 x) (.int .i64 8) y16 y h') Q) →
      Tl (F11_lrlrr (eInv env k) k j v (.int .u64 (x : Int)) (.int .i64 8) (.int .i64 (i : Int)) h ke0) Q := by
  induction r with
  | zero =>
    intro i j h v l hi hj A hn0 hl hk
    obtain ⟨j, rfl⟩ : ∃ q, j = q + 1 := ⟨j - 1, by omega⟩
    simp only [F11_lrlrr]
    have e : decide ((i : Int) < 8) = false := by simp; omega
    repeat (with_reducible apply Tl.val; focus (simp only [bnd_some, bin_add, bin_sub, bin_mul, bin_lss, bin_leq, bin_gtr, bin_geq, bin_eql, bin_neq, un_not, un_neg, goInt, gd_tt, gd_ff, gd_tf, gd_ft, gd_sk, gd3_tt, gd3_ff, gd3_tf, gd3_ft, gd3_sk, Option.map_some, lt_some, pick_t, pick_f, Nat.zero_add, Bool.not_true, Bool.not_false, Bool.true_and, Bool.false_and, Bool.and_true, Bool.and_false, cond_true, cond_false, beq_self_eq_true, Int.reduceBEq, decide_true, decide_false, ld2, ld3, ld5, ld23, ld25, ld47, fa47_0, conv_int u2 u23, conv_int u23 u2, conv_int u23 u5, conv_int u5 u23, bin_eql_bool u4, xor64u, xor64i, and64u, or64u, or8, and8, nil32, ptr32, sl25, nilc, ex0, ex1, e] <;> with_reducible rfl))
    with_reducible refine Tl.brF ?_
    refine hk _ _ _ _ (GrowFrom.refl _ _) hn0 ?_
    simpa [le, ints] using A
  | succ r ih =>
    intro i j h v l hi hj A hn0 hl hk
    obtain ⟨j, rfl⟩ : ∃ q, j = q + 1 := ⟨j - 1, by omega⟩
    simp only [F11_lrlrr]
    have e : decide ((i : Int) < 8) = true := by simp; omega
    have w8 : IntKind.i64.wrap (8 * (i : Int)) = ((8 * i : Nat) : Int) := by rw [wrap_i64']; split <;> omega
    have sh : Int.fdiv (x : Int) (2 ^ (min (((8 * i : Nat) : Int)).toNat 64)) = ((x / 2 ^ (8 * i) : Nat) : Int) := by
      have e1 : min (((8 * i : Nat) : Int)).toNat 64 = 8 * i := by omega
      rw [e1, fdiv_pow _ (by exact_mod_cast Nat.zero_le _)]
      simp
    have wb : IntKind.u8.wrap ((x / 2 ^ (8 * i) : Nat) : Int) = ((x / 2 ^ (8 * i) % 256 : Nat) : Int) := by rw [wrap_u8]; omega
    have w1 : IntKind.i64.wrap ((i : Int) + 1) = ((i + 1 : Nat) : Int) := by rw [wrap_i64']; split <;> omega
    obtain ⟨v', h', e1, A', g'⟩ := app_byte A (by omega) hn0 ((x / 2 ^ (8 * i) % 256 : Nat) : Int)
    repeat (with_reducible apply Tl.val; focus (simp only [bnd_some, bin_add, bin_sub, bin_mul, bin_lss, bin_leq, bin_gtr, bin_geq, bin_eql, bin_neq, un_not, un_neg, goInt, gd_tt, gd_ff, gd_tf, gd_ft, gd_sk, gd3_tt, gd3_ff, gd3_tf, gd3_ft, gd3_sk, Option.map_some, lt_some, pick_t, pick_f, Nat.zero_add, Bool.not_true, Bool.not_false, Bool.true_and, Bool.false_and, Bool.and_true, Bool.and_false, cond_true, cond_false, beq_self_eq_true, Int.reduceBEq, decide_true, decide_false, ld2, ld3, ld5, ld23, ld25, ld47, fa47_0, conv_int u2 u23, conv_int u23 u2, conv_int u23 u5, conv_int u5 u23, bin_eql_bool u4, xor64u, xor64i, and64u, or64u, or8, and8, nil32, ptr32, sl25, nilc, ex0, ex1, e] <;> with_reducible rfl))
    with_reducible refine Tl.brT ?_
    repeat (with_reducible apply Tl.val; focus (simp only [bnd_some, bin_add, bin_sub, bin_mul, bin_lss, bin_leq, bin_gtr, bin_geq, bin_eql, bin_neq, un_not, un_neg, goInt, gd_tt, gd_ff, gd_tf, gd_ft, gd_sk, gd3_tt, gd3_ff, gd3_tf, gd3_ft, gd3_sk, Option.map_some, lt_some, pick_t, pick_f, Nat.zero_add, Bool.not_true, Bool.not_false, Bool.true_and, Bool.false_and, Bool.and_true, Bool.and_false, cond_true, cond_false, beq_self_eq_true, Int.reduceBEq, decide_true, decide_false, ld2, ld3, ld5, ld23, ld25, ld47, fa47_0, conv_int u2 u23, conv_int u23 u2, conv_int u23 u5, conv_int u5 u23, bin_eql_bool u4, xor64u, xor64i, and64u, or64u, or8, and8, nil32, ptr32, sl25, nilc, ex0, ex1, w8, shr64u (show (0 : Int) ≤ ((8 * i : Nat) : Int) by omega), sh, wb, bs25] <;> with_reducible rfl))
    with_reducible refine Tl.val e1 ?_
    repeat (with_reducible apply Tl.val; focus (simp only [bnd_some, bin_add, bin_sub, bin_mul, bin_lss, bin_leq, bin_gtr, bin_geq, bin_eql, bin_neq, un_not, un_neg, goInt, gd_tt, gd_ff, gd_tf, gd_ft, gd_sk, gd3_tt, gd3_ff, gd3_tf, gd3_ft, gd3_sk, Option.map_some, lt_some, pick_t, pick_f, Nat.zero_add, Bool.not_true, Bool.not_false, Bool.true_and, Bool.false_and, Bool.and_true, Bool.and_false, cond_true, cond_false, beq_self_eq_true, Int.reduceBEq, decide_true, decide_false, ld2, ld3, ld5, ld23, ld25, ld47, fa47_0, conv_int u2 u23, conv_int u23 u2, conv_int u23 u5, conv_int u5 u23, bin_eql_bool u4, xor64u, xor64i, and64u, or64u, or8, and8, nil32, ptr32, sl25, nilc, ex0, ex1, w1] <;> with_reducible rfl))
    refine ih (by omega) (by omega) A' (Nat.le_trans hn0 g'.1) (by simp; omega) fun h2 v2 y16 y g2 hn2 A2 => ?_
    refine hk h2 v2 y16 y (g'.trans g2) hn2 ?_
    rw [List.append_assoc] at A2
    exact A2
theorem f11c {k : Nat} {n0 : Nat} {h : AH} {v : Value} {l : List Int} (x : Nat) (A : OB n0 h v l) (hn0 : n0 ≤ h.n) (hk : 8 < k) (hl : l.length ≤ 2 ^ 20) :
    Tl (eInv env (k + 1) (.func 11) #[] #[v, .int .u64 (x : Int), .int .i64 8] h) fun r => OB n0 r.2 r.1 (l ++ ints (le x 0 8)) ∧ GrowFrom n0 h r.2 := by
  rw [F11_call]
  unfold F11
  have e1 : decide ((8 : Int) < 1) = false := by decide
  have e2 : decide ((8 : Int) > 8) = false := by decide
  repeat (with_reducible apply Tl.val; focus (simp only [bnd_some, bin_add, bin_sub, bin_mul, bin_lss, bin_leq, bin_gtr, bin_geq, bin_eql, bin_neq, un_not, un_neg, goInt, gd_tt, gd_ff, gd_tf, gd_ft, gd_sk, gd3_tt, gd3_ff, gd3_tf, gd3_ft, gd3_sk, Option.map_some, lt_some, pick_t, pick_f, Nat.zero_add, Bool.not_true, Bool.not_false, Bool.true_and, Bool.false_and, Bool.and_true, Bool.and_false, cond_true, cond_false, beq_self_eq_true, Int.reduceBEq, decide_true, decide_false, ld2, ld3, ld5, ld23, ld25, ld47, fa47_0, conv_int u2 u23, conv_int u23 u2, conv_int u23 u5, conv_int u5 u23, bin_eql_bool u4, xor64u, xor64i, and64u, or64u, or8, and8, nil32, ptr32, sl25, nilc, ex0, ex1, e1, e2] <;> with_reducible rfl))
  with_reducible refine Tl.brF ?_
  refine f11_loop 8 (i := 0) (by omega) hk A hn0 (by omega) fun h' v' y16 y g hn A' => ?_
  exact ⟨_, rfl, A', g⟩
/-! ### What is written is read -/
def pvarN (v : Nat) : List Nat := (pvar v).map Int.toNat
theorem pvarN_lt {v : Nat} (h : v < 128) : pvarN v = [v] := by unfold pvarN; rw [pvar_lt h]; simp
theorem pvarN_ge {v : Nat} (h : ¬ v < 128) : pvarN v = (v % 128 + 128) :: pvarN (v / 128) := by
  unfold pvarN; rw [pvar_ge h]; simp only [List.map_cons, Int.toNat_natCast]
theorem ints_pvarN (v : Nat) : ints (pvarN v) = pvar v := by
  induction v using Nat.strongRecOn with
  | _ v ih =>
    by_cases h : v < 128
    · rw [pvarN_lt h, pvar_lt h]; rfl
    · rw [pvarN_ge h, pvar_ge h, ← ih (v / 128) (by omega)]; rfl
theorem pvarN_256 (v : Nat) : ∀ y ∈ pvarN v, y < 256 := by
  induction v using Nat.strongRecOn with
  | _ v ih =>
    by_cases h : v < 128
    · rw [pvarN_lt h]; intro y hy; simp at hy; omega
    · rw [pvarN_ge h]
      intro y hy
      rcases List.mem_cons.1 hy with rfl | hy
      · omega
      · exact ih (v / 128) (by omega) y hy
theorem dec_pvar (rest : List Nat) (v : Nat) : ∀ {i acc : Nat}, (i = 0 ∨ 0 < v) → v * 2 ^ (7 * i) < 18446744073709551616 → dec i acc (pvarN v ++ rest) = some (acc + v * 2 ^ (7 * i), rest) := by
  induction v using Nat.strongRecOn with
  | _ v ih =>
    intro i acc hi hv
    have hi9 : i ≤ 9 := by
      rcases hi with rfl | hi
      · omega
      · by_cases q : i ≤ 9
        · exact q
        · have h1 : 2 ^ 70 ≤ 2 ^ (7 * i) := Nat.pow_le_pow_right (by decide) (by omega)
          have h2 : (2 : Nat) ^ 70 = 1180591620717411303424 := by decide
          have h3 : 1 * 2 ^ (7 * i) ≤ v * 2 ^ (7 * i) := Nat.mul_le_mul_right _ hi
          omega
    by_cases h : v < 128
    · rw [pvarN_lt h, List.singleton_append, dec, if_neg (by omega), if_neg, if_neg (by omega), if_neg]
      · rw [Nat.mod_eq_of_lt h]
      · rw [Nat.mod_eq_of_lt h]; omega
      · rw [Nat.mod_eq_of_lt h]
        rintro ⟨rfl, h1⟩
        have h2 : (2 : Nat) ^ (7 * 9) = 9223372036854775808 := by decide
        rw [h2] at hv
        omega
    · have hi8 : i ≤ 8 := by
        by_cases q : i ≤ 8
        · exact q
        · have : i = 9 := by omega
          subst this
          have h2 : (2 : Nat) ^ (7 * 9) = 9223372036854775808 := by decide
          rw [h2] at hv
          omega
      have hp : 2 ^ (7 * (i + 1)) = 128 * 2 ^ (7 * i) := by rw [Nat.mul_succ, Nat.pow_add, Nat.mul_comm]
      have hm : (v % 128 + 128) % 128 = v % 128 := by omega
      have hle : v / 128 * 2 ^ (7 * (i + 1)) ≤ v * 2 ^ (7 * i) := by
        rw [hp, ← Nat.mul_assoc]
        exact Nat.mul_le_mul_right _ (Nat.div_mul_le_self v 128)
      rw [pvarN_ge h, List.cons_append, dec, if_neg (by omega), if_neg (by omega), if_pos (by omega), ih (v / 128) (by omega) (.inr (by omega)) (by omega), hm]
      congr 2
      rw [hp, Nat.add_assoc]
      congr 1
      rw [← Nat.mul_assoc, ← Nat.add_mul]
      congr 1
      omega
theorem dec_conv : ∀ (B : List Nat) {i acc w : Nat} {rest : List Nat}, (∀ x ∈ B, x < 256) → i ≤ 10 → dec i acc B = some (w, rest) → ∃ v, B = pvarN v ++ rest ∧ w = acc + v * 2 ^ (7 * i) ∧ (i = 0 ∨ 0 < v) ∧ v * 2 ^ (7 * i) < 18446744073709551616 := by
  intro B
  induction B with
  | nil => intro i acc w rest _ _ h; cases h
  | cons c B ih =>
    intro i acc w rest hB hi h
    have hc := hB c (by simp)
    rw [dec] at h
    by_cases i10 : i = 10
    · rw [if_pos i10] at h; cases h
    rw [if_neg i10] at h
    by_cases bad : i = 9 ∧ c % 128 > 1
    · rw [if_pos bad] at h; cases h
    rw [if_neg bad] at h
    by_cases more : c ≥ 128
    · rw [if_pos more] at h
      obtain ⟨v, e1, e2, e3, e4⟩ := ih (fun x hx => hB x (by simp [hx])) (by omega) h
      have hv : 0 < v := by omega
      have hp : 2 ^ (7 * (i + 1)) = 128 * 2 ^ (7 * i) := by rw [Nat.mul_succ, Nat.pow_add, Nat.mul_comm]
      have hi9 : i + 1 ≤ 9 := by
        by_cases q : i + 1 ≤ 9
        · exact q
        · have h1 : 2 ^ 70 ≤ 2 ^ (7 * (i + 1)) := Nat.pow_le_pow_right (by decide) (by omega)
          have h2 : (2 : Nat) ^ 70 = 1180591620717411303424 := by decide
          have h3 : 1 * 2 ^ (7 * (i + 1)) ≤ v * 2 ^ (7 * (i + 1)) := Nat.mul_le_mul_right _ hv
          omega
      refine ⟨v * 128 + c % 128, ?_, ?_, .inr (by omega), ?_⟩
      · rw [pvarN_ge (by omega), e1]
        have h1 : (v * 128 + c % 128) % 128 + 128 = c := by omega
        have h2 : (v * 128 + c % 128) / 128 = v := by omega
        rw [h1, h2]
        rfl
      · rw [e2, hp, Nat.add_mul, Nat.add_assoc, ← Nat.mul_assoc]
        omega
      · have h1 : (v * 128 + c % 128) * 2 ^ (7 * i) = v * 2 ^ (7 * (i + 1)) + c % 128 * 2 ^ (7 * i) := by
          rw [hp, Nat.add_mul, ← Nat.mul_assoc]
        have h5 : v * 2 ^ (7 * (i + 1)) + 2 ^ (7 * (i + 1)) ≤ 18446744073709551616 := by
          -- a multiple below a multiple
          have hdvd : 18446744073709551616 = 2 ^ (64 - 7 * (i + 1)) * 2 ^ (7 * (i + 1)) := by
            rw [← Nat.pow_add, show 64 - 7 * (i + 1) + 7 * (i + 1) = 64 by omega]
          have hpos : 0 < 2 ^ (7 * (i + 1)) := Nat.two_pow_pos _
          rw [hdvd] at e4 ⊢
          have := Nat.lt_of_mul_lt_mul_right e4
          rw [← Nat.succ_mul]
          exact Nat.mul_le_mul_right _ this
        have h6 : c % 128 * 2 ^ (7 * i) ≤ 127 * 2 ^ (7 * i) := Nat.mul_le_mul_right _ (by omega)
        have hpos : 0 < 2 ^ (7 * i) := Nat.two_pow_pos _
        rw [h1]
        omega
    · rw [if_neg more] at h
      by_cases zero : c % 128 = 0 ∧ i > 0
      · rw [if_pos zero] at h; cases h
      rw [if_neg zero] at h
      simp only [Option.some.injEq, Prod.mk.injEq] at h
      obtain ⟨rfl, rfl⟩ := h
      have hm : c % 128 = c := by omega
      refine ⟨c, ?_, by rw [hm], by omega, ?_⟩
      · rw [pvarN_lt (by omega)]; rfl
      · have h7 := pow7 (i := i) (by omega)
        by_cases i9 : i = 9
        · have : c * 2 ^ (7 * i) ≤ 1 * 2 ^ (7 * i) := Nat.mul_le_mul_right _ (by omega)
          omega
        · have h8 : 2 ^ (7 * i) ≤ 2 ^ 56 := Nat.pow_le_pow_right (by decide) (by omega)
          have h56 : (2 : Nat) ^ 56 = 72057594037927936 := by decide
          have : c * 2 ^ (7 * i) ≤ 127 * 2 ^ (7 * i) := Nat.mul_le_mul_right _ (by omega)
          omega
end Go.Proofs.Ytchfdnboojamnaa.Sh
