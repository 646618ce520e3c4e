/- What the functions of the octet's package come to: readers that nobody made, copies, comparing. -/
import Derived.Test.YtchfdnboojamnaaSzO2
set_option linter.unusedVariables false
set_option linter.unusedSimpArgs false
namespace Go.Proofs.Ytchfdnboojamnaa.Sh
open Go Go.RowKit Go.Proofs.Ev

theorem nil32 {x y : Operand} : pBin Try.prog .eql 32 x y (.pointer none) (.pointer none) = some (.bool true) := by kernel_rfl
theorem ptr32 {x y : Operand} {b o : Nat} : pBin Try.prog .eql 32 x y (.pointer (some ⟨b, o, none⟩)) (.pointer none) = some (.bool false) := by kernel_rfl
theorem sl25 {x y : Operand} {b o n c : Nat} : pBin Try.prog .eql 25 x y (.slice (some ⟨b, o, none⟩) n c) (.slice none 0 0) = some (.bool false) := by kernel_rfl
theorem nsl25 {x y : Operand} : pBin Try.prog .eql 25 x y (.slice none 0 0) (.slice none 0 0) = some (.bool true) := by kernel_rfl
theorem nilc {b o : Nat} : pNilCheck (.pointer (some ⟨b, o, none⟩)) = some (.pointer (some ⟨b, o, none⟩)) := rfl
theorem ex0 {a b : Value} : pExtract (.tuple #[a, b]) 0 = some a := by cases a <;> rfl
theorem ex1 {a b : Value} : pExtract (.tuple #[a, b]) 1 = some b := by cases a <;> rfl
theorem f14n {k : Nat} (n : Value) (h : AH) : eInv env (k + 1) (.func 14) #[] #[.pointer none, n] h = some (.tuple #[.int .u64 0, .int .i64 1], h) := by
  rw [F14_call]; unfold F14; simp only [nil32, bnd_some, brV_true]
theorem f13n {k : Nat} (h : AH) : eInv env (k + 1) (.func 13) #[] #[.pointer none] h = some (.tuple #[.int .u64 0, .int .i64 1], h) := by
  rw [F13_call]; unfold F13; simp only [nil32, bnd_some, brV_true]
theorem f17n {k : Nat} (n : Value) (h : AH) : eInv env (k + 1) (.func 17) #[] #[.pointer none, n] h = some (.tuple #[.slice none 0 0, .int .i64 1], h) := by
  rw [F17_call]; unfold F17; simp only [nil32, bnd_some, brV_true]
theorem f15n {k : Nat} (h : AH) : eInv env (k + 1) (.func 15) #[] #[.pointer none] h = some (.int .i64 0, h) := by
  rw [F15_call]; unfold F15; simp only [nil32, bnd_some, brV_true]
theorem bs25e (h : AH) : pBuildSlice Try.prog 25 0 #[] h = some (.slice (some ⟨h.n, 0, none⟩) 0 0, h.alloc (.cells [] 5 true)) := by kernel_rfl
/-- Bytes, wherever they lie. -/
def Bytes (h : AH) (v : Value) (l : List Int) : Prop := SlV Try.prog h v 1 (l.map brow)
theorem Bytes.grow {h h' : AH} {v : Value} {l : List Int} (S : Bytes h v l) (g : Grow h h') : Bytes h' v l := SlV.grow S g
theorem Bytes.len {h h' : AH} {v : Value} {l : List Int} (S : Bytes h v l) : pLen Try.prog #[25] v h' = some (.int .i64 l.length) := by
  have := SlV.len S u25 (h' := h')
  simpa using this
theorem Bytes.at_ {h : AH} {v : Value} {l : List Int} (S : Bytes h v l) {i : Nat} {c : Int} (hi : l[i]? = some c) :
    ∃ b o, pIndexAddr Try.prog 25 v (.int .i64 i) = some (.pointer (some ⟨b, o, none⟩)) ∧ h.cell b o = some (.int .u8 c) := by
  obtain ⟨b, o, h1, h2⟩ := SlV.at_ S (t := 25) (k := .i64) (i := i) (r := brow c) (by simp [hi]) u25 sz5
  exact ⟨b, o, h1, Ev.cell_of_row (j := 0) h2 (by omega)⟩
theorem one_brows (l : List Int) : (l.map brow).flatten.all oneCell = true := by
  induction l with
  | nil => rfl
  | cons c l ih => simp only [List.map_cons, List.flatten_cons, List.all_append, ih, Bool.and_true]; rfl
/-- A copy of one's own. -/
theorem copy_of {h : AH} {v : Value} {l : List Int} (S : Bytes h v l) (hl : l.length ≤ 2 ^ 30) : ∃ v' h' b', pAppend Try.prog #[25, 25] (.slice (some ⟨h.n, 0, none⟩) 0 0) v (h.alloc (.cells [] 5 true)) = some (v', h') ∧ SlX Try.prog h' v' 1 b' (l.map brow) ∧ h.n ≤ b' ∧ Grow h h' := by
  have A : SlX Try.prog (h.alloc (.cells [] 5 true)) (.slice (some ⟨h.n, 0, none⟩) 0 0) 1 h.n [] :=
    ⟨rfl, ⟨⟨[], 5, AH.get_alloc_new _ _, fun h => absurd rfl h⟩, fun r hr => (by cases hr)⟩, szOk_of (AH.get_alloc_new _ _) sz5⟩
  obtain ⟨v', h', b', e1, e2, e3, e4⟩ := append_own app25 A (SlV.grow S (Grow.alloc _ _)) (by simp; omega) (one_brows l) (Nat.le_refl h.n)
  rw [List.nil_append] at e2
  exact ⟨v', h', b', e1, e2, e3, (Grow.alloc _ _).trans' e4⟩
/-- 'Own'. -/
theorem f18c {k : Nat} {h : AH} {v : Value} {l : List Int} (S : Bytes h v l) (hl : l.length ≤ 2 ^ 30) : Tl (eInv env (k + 1) (.func 18) #[] #[v] h) fun r => ∃ b', SlX Try.prog r.2 r.1 1 b' (l.map brow) ∧ h.n ≤ b' ∧ Grow h r.2 := by
  rw [F18_call]
  unfold F18
  repeat (with_reducible apply Tl.val; focus (simp only [bnd_some, bin_add, bin_sub, bin_mul, bin_lss, bin_leq, bin_gtr, bin_geq, bin_eql, bin_neq, un_not, un_neg, goInt, gd_tt, gd_ff, gd_tf, gd_ft, gd_sk, gd3_tt, gd3_ff, gd3_tf, gd3_ft, gd3_sk, Option.map_some, lt_some, pick_t, pick_f, Nat.zero_add, Bool.not_true, Bool.not_false, Bool.true_and, Bool.false_and, Bool.and_true, Bool.and_false, cond_true, cond_false, beq_self_eq_true, Int.reduceBEq, decide_true, decide_false, ld2, ld3, ld5, ld23, ld25, ld47, fa47_0, conv_int u2 u23, conv_int u23 u2, conv_int u23 u5, conv_int u5 u23, bin_eql_bool u4, xor64u, xor64i, and64u, or64u, or8, and8, nil32, ptr32, sl25, nilc, bs25e] <;> with_reducible rfl))
  obtain ⟨v', h', b', e1, e2, e3, e4⟩ := copy_of S hl
  refine Tl.val e1 ?_
  exact ⟨_, rfl, b', e2, e3, e4⟩
/-- 'slices.Clone' of what is not nil. -/
theorem f20c {k : Nat} {h : AH} {b o n c : Nat} {l : List Int} (S : Bytes h (.slice (some ⟨b, o, none⟩) n c) l) (hl : l.length ≤ 2 ^ 30) : Tl (eInv env (k + 1) (.func 20) #[] #[.slice (some ⟨b, o, none⟩) n c] h) fun r => ∃ b', SlX Try.prog r.2 r.1 1 b' (l.map brow) ∧ h.n ≤ b' ∧ Grow h r.2 := by
  rw [F20_call]
  unfold F20
  repeat (with_reducible apply Tl.val; focus (simp only [bnd_some, bin_add, bin_sub, bin_mul, bin_lss, bin_leq, bin_gtr, bin_geq, bin_eql, bin_neq, un_not, un_neg, goInt, gd_tt, gd_ff, gd_tf, gd_ft, gd_sk, gd3_tt, gd3_ff, gd3_tf, gd3_ft, gd3_sk, Option.map_some, lt_some, pick_t, pick_f, Nat.zero_add, Bool.not_true, Bool.not_false, Bool.true_and, Bool.false_and, Bool.and_true, Bool.and_false, cond_true, cond_false, beq_self_eq_true, Int.reduceBEq, decide_true, decide_false, ld2, ld3, ld5, ld23, ld25, ld47, fa47_0, conv_int u2 u23, conv_int u23 u2, conv_int u23 u5, conv_int u5 u23, bin_eql_bool u4, xor64u, xor64i, and64u, or64u, or8, and8, nil32, ptr32, sl25, nilc] <;> with_reducible rfl))
  with_reducible refine Tl.brF ?_
  repeat (with_reducible apply Tl.val; focus (simp only [bnd_some, bin_add, bin_sub, bin_mul, bin_lss, bin_leq, bin_gtr, bin_geq, bin_eql, bin_neq, un_not, un_neg, goInt, gd_tt, gd_ff, gd_tf, gd_ft, gd_sk, gd3_tt, gd3_ff, gd3_tf, gd3_ft, gd3_sk, Option.map_some, lt_some, pick_t, pick_f, Nat.zero_add, Bool.not_true, Bool.not_false, Bool.true_and, Bool.false_and, Bool.and_true, Bool.and_false, cond_true, cond_false, beq_self_eq_true, Int.reduceBEq, decide_true, decide_false, ld2, ld3, ld5, ld23, ld25, ld47, fa47_0, conv_int u2 u23, conv_int u23 u2, conv_int u23 u5, conv_int u5 u23, bin_eql_bool u4, xor64u, xor64i, and64u, or64u, or8, and8, nil32, ptr32, sl25, nilc, bs25e] <;> with_reducible rfl))
  obtain ⟨v', h', b', e1, e2, e3, e4⟩ := copy_of S hl
  refine Tl.val e1 ?_
  exact ⟨_, rfl, b', e2, e3, e4⟩
/-- 'Same'. -/
theorem f16_loop {β : Type} {k : Nat} {Q : β → Prop} {h : AH} {v w : Value} {l : List Int} (A : Bytes h v l) (B : Bytes h w l) (hl : l.length ≤ 2 ^ 40) {ke0 : Value → Value → Value → Value → AH → Option β} {kr : Value → AH → Option β}
    (hk : ∀ y5 y, Tl (ke0 v w y5 y h) Q) (n : Nat) : ∀ {i j : Nat}, i + n = l.length → n < j → Tl (F16_lrlrr (eInv env k) k j v w (.int .i64 i) h ke0 kr) Q := by
  have hlen : ∀ h', pLen Try.prog #[25] v h' = some (.int .i64 l.length) := fun h' => A.len
  induction n with
  | zero =>
    intro i j hi hj
    obtain ⟨j, rfl⟩ : ∃ q, j = q + 1 := ⟨j - 1, by omega⟩
    simp only [F16_lrlrr]
    have e : decide ((i : Int) < (l.length : Int)) = false := by simp; omega
    repeat (with_reducible apply Tl.val; focus (simp only [bnd_some, bin_add, bin_sub, bin_mul, bin_lss, bin_leq, bin_gtr, bin_geq, bin_eql, bin_neq, un_not, un_neg, goInt, gd_tt, gd_ff, gd_tf, gd_ft, gd_sk, gd3_tt, gd3_ff, gd3_tf, gd3_ft, gd3_sk, Option.map_some, lt_some, pick_t, pick_f, Nat.zero_add, Bool.not_true, Bool.not_false, Bool.true_and, Bool.false_and, Bool.and_true, Bool.and_false, cond_true, cond_false, beq_self_eq_true, Int.reduceBEq, decide_true, decide_false, ld2, ld3, ld5, ld23, ld25, ld47, fa47_0, conv_int u2 u23, conv_int u23 u2, conv_int u23 u5, conv_int u5 u23, bin_eql_bool u4, xor64u, xor64i, and64u, or64u, or8, and8, nil32, ptr32, sl25, nilc, hlen, e] <;> with_reducible rfl))
    with_reducible refine Tl.brF ?_
    exact hk _ _
  | succ n ih =>
    intro i j hi hj
    obtain ⟨j, rfl⟩ : ∃ q, j = q + 1 := ⟨j - 1, by omega⟩
    have hlt : i < l.length := by omega
    obtain ⟨c, hc⟩ : ∃ c, l[i]? = some c := ⟨_, List.getElem?_eq_getElem hlt⟩
    obtain ⟨b, o, hx, h2⟩ := A.at_ hc
    obtain ⟨b', o', hx', h2'⟩ := B.at_ hc
    simp only [F16_lrlrr]
    have e : decide ((i : Int) < (l.length : Int)) = true := by simp; omega
    have w1 : IntKind.i64.wrap ((i : Int) + 1) = ((i + 1 : Nat) : Int) := by rw [wrap_i64']; split <;> omega
    have ne : (c != c) = false := by simp
    repeat (with_reducible apply Tl.val; focus (simp only [bnd_some, bin_add, bin_sub, bin_mul, bin_lss, bin_leq, bin_gtr, bin_geq, bin_eql, bin_neq, un_not, un_neg, goInt, gd_tt, gd_ff, gd_tf, gd_ft, gd_sk, gd3_tt, gd3_ff, gd3_tf, gd3_ft, gd3_sk, Option.map_some, lt_some, pick_t, pick_f, Nat.zero_add, Bool.not_true, Bool.not_false, Bool.true_and, Bool.false_and, Bool.and_true, Bool.and_false, cond_true, cond_false, beq_self_eq_true, Int.reduceBEq, decide_true, decide_false, ld2, ld3, ld5, ld23, ld25, ld47, fa47_0, conv_int u2 u23, conv_int u23 u2, conv_int u23 u5, conv_int u5 u23, bin_eql_bool u4, xor64u, xor64i, and64u, or64u, or8, and8, nil32, ptr32, sl25, nilc, hlen, e] <;> with_reducible rfl))
    with_reducible refine Tl.brT ?_
    repeat (with_reducible apply Tl.val; focus (simp only [bnd_some, bin_add, bin_sub, bin_mul, bin_lss, bin_leq, bin_gtr, bin_geq, bin_eql, bin_neq, un_not, un_neg, goInt, gd_tt, gd_ff, gd_tf, gd_ft, gd_sk, gd3_tt, gd3_ff, gd3_tf, gd3_ft, gd3_sk, Option.map_some, lt_some, pick_t, pick_f, Nat.zero_add, Bool.not_true, Bool.not_false, Bool.true_and, Bool.false_and, Bool.and_true, Bool.and_false, cond_true, cond_false, beq_self_eq_true, Int.reduceBEq, decide_true, decide_false, ld2, ld3, ld5, ld23, ld25, ld47, fa47_0, conv_int u2 u23, conv_int u23 u2, conv_int u23 u5, conv_int u5 u23, bin_eql_bool u4, xor64u, xor64i, and64u, or64u, or8, and8, nil32, ptr32, sl25, nilc, hx, h2, hx', h2', ne] <;> with_reducible rfl))
    with_reducible refine Tl.brF ?_
    repeat (with_reducible apply Tl.val; focus (simp only [bnd_some, bin_add, bin_sub, bin_mul, bin_lss, bin_leq, bin_gtr, bin_geq, bin_eql, bin_neq, un_not, un_neg, goInt, gd_tt, gd_ff, gd_tf, gd_ft, gd_sk, gd3_tt, gd3_ff, gd3_tf, gd3_ft, gd3_sk, Option.map_some, lt_some, pick_t, pick_f, Nat.zero_add, Bool.not_true, Bool.not_false, Bool.true_and, Bool.false_and, Bool.and_true, Bool.and_false, cond_true, cond_false, beq_self_eq_true, Int.reduceBEq, decide_true, decide_false, ld2, ld3, ld5, ld23, ld25, ld47, fa47_0, conv_int u2 u23, conv_int u23 u2, conv_int u23 u5, conv_int u5 u23, bin_eql_bool u4, xor64u, xor64i, and64u, or64u, or8, and8, nil32, ptr32, sl25, nilc, w1] <;> with_reducible rfl))
    exact ih (by omega) (by omega)
theorem f16c {k : Nat} {h : AH} {v w : Value} {l : List Int} (A : Bytes h v l) (B : Bytes h w l) (hl : l.length ≤ 2 ^ 40) (hk : l.length < k) : eInv env (k + 1) (.func 16) #[] #[v, w] h = some (.bool true, h) := by
  have hv : ∀ h', pLen Try.prog #[25] v h' = some (.int .i64 l.length) := fun h' => A.len
  have hw : ∀ h', pLen Try.prog #[25] w h' = some (.int .i64 l.length) := fun h' => B.len
  have T : Tl (F16 (eInv env k) k v w h) fun r => r = (.bool true, h) := by
    unfold F16
    have ne : (((l.length : Nat) : Int) != ((l.length : Nat) : Int)) = false := by simp
    repeat (with_reducible apply Tl.val; focus (simp only [bnd_some, bin_add, bin_sub, bin_mul, bin_lss, bin_leq, bin_gtr, bin_geq, bin_eql, bin_neq, un_not, un_neg, goInt, gd_tt, gd_ff, gd_tf, gd_ft, gd_sk, gd3_tt, gd3_ff, gd3_tf, gd3_ft, gd3_sk, Option.map_some, lt_some, pick_t, pick_f, Nat.zero_add, Bool.not_true, Bool.not_false, Bool.true_and, Bool.false_and, Bool.and_true, Bool.and_false, cond_true, cond_false, beq_self_eq_true, Int.reduceBEq, decide_true, decide_false, ld2, ld3, ld5, ld23, ld25, ld47, fa47_0, conv_int u2 u23, conv_int u23 u2, conv_int u23 u5, conv_int u5 u23, bin_eql_bool u4, xor64u, xor64i, and64u, or64u, or8, and8, nil32, ptr32, sl25, nilc, hv, hw, ne] <;> with_reducible rfl))
    with_reducible refine Tl.brF ?_
    refine f16_loop A B hl ?_ l.length (i := 0) (by omega) hk
    intro y5 y
    exact ⟨_, rfl, rfl⟩
  obtain ⟨r, h1, h2⟩ := T
  rw [F16_call, h1, h2]
/-! ### A reader -/
/-- A reader at a block, with what is left. -/
structure Rdr (h : AH) (br : Nat) (l : List Int) (bb : Nat) : Prop where
  box : ∃ b o c, h.get br = some (.cells [.slice (some ⟨b, o, none⟩) l.length c] 47 true) ∧ l.length ≤ c ∧ b = bb ∧ Lie Try.prog h b o 1 true (l.map brow) ∧ szOk Try.prog (some ⟨b, 0, none⟩) 1 h = true
theorem bd47 (v : Value) (hv : kn v = true) (h1 : oneCell v = true) : pBuild Try.prog 47 #[(0, v)] = some (.agg #[v]) := by
  cases v <;> first | (cases h1; done) | (cases hv; done) | kernel_rfl
theorem is47 : (szT Try.prog 47).isSome = true := by rw [sz47]; rfl
/-- 'New'. -/
theorem f12c {k : Nat} {h : AH} {b o n c : Nat} {l : List Int} (S : Bytes h (.slice (some ⟨b, o, none⟩) n c) l) (hl : l.length ≤ 2 ^ 30) :
    Tl (eInv env (k + 2) (.func 12) #[] #[.slice (some ⟨b, o, none⟩) n c] h) fun r => ∃ br bb, r.1 = .pointer (some ⟨br, 0, none⟩) ∧ Rdr r.2 br l bb ∧ h.n ≤ br ∧ h.n ≤ bb ∧ br ≠ bb ∧ Grow h r.2 := by
  rw [F12_call]
  unfold F12
  with_reducible refine Tl.seq (f20c (k := k) S hl) ?_
  rintro ⟨v', h1⟩ ⟨b', X, hb, g⟩
  obtain ⟨form, lie, sz⟩ := X
  simp only at form lie sz g
  subst form
  have bd := bd47 (.slice (some ⟨b', 0, none⟩) (l.map brow).length (l.map brow).length) rfl rfl
  repeat (with_reducible apply Tl.val; focus (simp only [bnd_some, bin_add, bin_sub, bin_mul, bin_lss, bin_leq, bin_gtr, bin_geq, bin_eql, bin_neq, un_not, un_neg, goInt, gd_tt, gd_ff, gd_tf, gd_ft, gd_sk, gd3_tt, gd3_ff, gd3_tf, gd3_ft, gd3_sk, Option.map_some, lt_some, pick_t, pick_f, Nat.zero_add, Bool.not_true, Bool.not_false, Bool.true_and, Bool.false_and, Bool.and_true, Bool.and_false, cond_true, cond_false, beq_self_eq_true, Int.reduceBEq, decide_true, decide_false, ld2, ld3, ld5, ld23, ld25, ld47, fa47_0, conv_int u2 u23, conv_int u23 u2, conv_int u23 u5, conv_int u5 u23, bin_eql_bool u4, xor64u, xor64i, and64u, or64u, or8, and8, nil32, ptr32, sl25, nilc, bd] <;> with_reducible rfl))
  refine Tl.box (Sta.init h1) rfl is47 fun br h2 S2 g2 => ?_
  refine ⟨_, rfl, br, b', rfl, ⟨b', 0, l.length, ?_, Nat.le_refl _, rfl, lie.grow (g2.2 _ lie.lt), ?_⟩, Nat.le_trans g.1 (S2.new _ (List.mem_cons_self ..)), hb, ?_, g.trans g2⟩
  · have := S2.mem.at_ (i := 0) rfl
    simpa [Value.cells] using this
  · have e : h2.get b' = h1.get b' := g2.2 _ lie.lt
    unfold szOk at sz ⊢
    simp only at sz ⊢
    rw [e]; exact sz
  · have h3 := S2.new _ (List.mem_cons_self ..)
    have h4 := lie.lt
    simp only at h3
    omega
end Go.Proofs.Ytchfdnboojamnaa.Sh
