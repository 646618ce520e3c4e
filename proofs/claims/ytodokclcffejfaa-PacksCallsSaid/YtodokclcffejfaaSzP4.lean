/- 'PacksJoins' comes to true. -/
import Derived.Test.YtodokclcffejfaaSzP3
set_option linter.unusedVariables false
set_option linter.unusedSimpArgs false
set_option maxRecDepth 100000
namespace Go.Proofs.Ytodokclcffejfaa.Sh
open Go Go.RowKit Go.Proofs.Ev

theorem ex0 {a b : Value} : pExtract (.tuple #[a, b]) 0 = some a := by cases a <;> rfl
theorem ex1 {a b : Value} : pExtract (.tuple #[a, b]) 1 = some b := by cases a <;> rfl
theorem f9c {k : Nat} (n : Int) (h : AH) : ∃ w : Nat, w ≤ 64 ∧ eInv env (k + 1) (.func 9) #[] #[.int .i64 n, .int .i64 65] h = some (.int .i64 w, h) := by
  have T : Tl (F9 (eInv env k) k (.int .i64 n) (.int .i64 65) h) fun r => ∃ w : Nat, w ≤ 64 ∧ r = (.int .i64 w, h) := by
    unfold F9
    have e : decide ((65 : Int) < 1) = false := by decide
    have r1 := Int.tmod_lt_of_pos n (show (0 : Int) < 65 by decide)
    have r2 : -65 < n.tmod 65 := by
      have h1 := Int.tmod_lt_of_pos (-n) (show (0 : Int) < 65 by decide)
      rw [Int.neg_tmod] at h1
      omega
    repeat (with_reducible apply Tl.val; focus (simp only [bnd_some, bin_add, bin_sub, bin_mul, bin_lss, bin_leq, bin_gtr, bin_geq, bin_eql, bin_neq, un_not, un_neg, goInt, gd_tt, gd_ff, gd_tf, gd_ft, gd_sk, gd3_tt, gd3_ff, gd3_tf, gd3_ft, gd3_sk, Option.map_some, lt_some, pick_t, pick_f, Nat.zero_add, Bool.not_true, Bool.not_false, Bool.true_and, Bool.false_and, Bool.and_true, Bool.and_false, cond_true, cond_false, beq_self_eq_true, Int.reduceBEq, decide_true, decide_false, ld3, ld5, ld25, ld30, conv_int u30 u5, conv_int u5 u3, bin_eql_bool u4, bin_neq_bool u4, xor64u, and64u, or64u, or8, and8, ex0, ex1, e] <;> with_reducible rfl))
    with_reducible refine Tl.brF ?_
    unfold F9_rlrrr
    by_cases q : n.tmod 65 < 0
    · have e1 : decide (n.tmod 65 < 0) = true := by simpa using q
      have w1 : IntKind.i64.wrap (n.tmod 65 + 65) = (((n.tmod 65 + 65).toNat : Nat) : Int) := by rw [wrap_i64']; split <;> omega
      repeat (with_reducible apply Tl.val; focus (simp only [bnd_some, bin_add, bin_sub, bin_mul, bin_lss, bin_leq, bin_gtr, bin_geq, bin_eql, bin_neq, un_not, un_neg, goInt, gd_tt, gd_ff, gd_tf, gd_ft, gd_sk, gd3_tt, gd3_ff, gd3_tf, gd3_ft, gd3_sk, Option.map_some, lt_some, pick_t, pick_f, Nat.zero_add, Bool.not_true, Bool.not_false, Bool.true_and, Bool.false_and, Bool.and_true, Bool.and_false, cond_true, cond_false, beq_self_eq_true, Int.reduceBEq, decide_true, decide_false, ld3, ld5, ld25, ld30, conv_int u30 u5, conv_int u5 u3, bin_eql_bool u4, bin_neq_bool u4, xor64u, and64u, or64u, or8, and8, ex0, ex1, bin_rem (show (65 : Int) ≠ 0 by decide), e1] <;> with_reducible rfl))
      with_reducible refine Tl.brT ?_
      repeat (with_reducible apply Tl.val; focus (simp only [bnd_some, bin_add, bin_sub, bin_mul, bin_lss, bin_leq, bin_gtr, bin_geq, bin_eql, bin_neq, un_not, un_neg, goInt, gd_tt, gd_ff, gd_tf, gd_ft, gd_sk, gd3_tt, gd3_ff, gd3_tf, gd3_ft, gd3_sk, Option.map_some, lt_some, pick_t, pick_f, Nat.zero_add, Bool.not_true, Bool.not_false, Bool.true_and, Bool.false_and, Bool.and_true, Bool.and_false, cond_true, cond_false, beq_self_eq_true, Int.reduceBEq, decide_true, decide_false, ld3, ld5, ld25, ld30, conv_int u30 u5, conv_int u5 u3, bin_eql_bool u4, bin_neq_bool u4, xor64u, and64u, or64u, or8, and8, ex0, ex1, w1] <;> with_reducible rfl))
      exact ⟨_, rfl, _, by omega, rfl⟩
    · have e1 : decide (n.tmod 65 < 0) = false := by simpa using q
      repeat (with_reducible apply Tl.val; focus (simp only [bnd_some, bin_add, bin_sub, bin_mul, bin_lss, bin_leq, bin_gtr, bin_geq, bin_eql, bin_neq, un_not, un_neg, goInt, gd_tt, gd_ff, gd_tf, gd_ft, gd_sk, gd3_tt, gd3_ff, gd3_tf, gd3_ft, gd3_sk, Option.map_some, lt_some, pick_t, pick_f, Nat.zero_add, Bool.not_true, Bool.not_false, Bool.true_and, Bool.false_and, Bool.and_true, Bool.and_false, cond_true, cond_false, beq_self_eq_true, Int.reduceBEq, decide_true, decide_false, ld3, ld5, ld25, ld30, conv_int u30 u5, conv_int u5 u3, bin_eql_bool u4, bin_neq_bool u4, xor64u, and64u, or64u, or8, and8, ex0, ex1, bin_rem (show (65 : Int) ≠ 0 by decide), e1] <;> with_reducible rfl))
      with_reducible refine Tl.brF ?_
      refine ⟨_, rfl, (n.tmod 65).toNat, by omega, ?_⟩
      rw [show (((n.tmod 65).toNat : Nat) : Int) = n.tmod 65 by omega]
  obtain ⟨r, h1, w, hw, h2⟩ := T
  exact ⟨w, hw, by rw [F9_call, h1, h2]⟩
/-- Appended to a slice of one's own; all else lies as it did. -/
theorem append_own2 {P : Program} {ts : Array TypeId} {e n bytes : Nat} (T : AppT P ts e n bytes) {h : AH} {v : Value} {b : Nat} {x : Value} {rows rows' : List (List Value)} (A : SlX P h v n b rows) (B : SlV P h x n rows')
    (hbig : (rows.length + rows'.length + 1024) * (bytes + 1) ≤ 2 ^ 46) (hone : rows'.flatten.all oneCell = true) :
    ∃ v' h', pAppend P ts v x h = some (v', h') ∧ SlV P h' v' n (rows ++ rows') ∧ ∀ i, i < h.n → i ≠ b → h'.get i = h.get i := by
  by_cases hne : rows' = []
  · subst hne
    obtain ⟨v', h', b', e1, e2, e3, e4⟩ := append_own T A B hbig hone (Nat.le_refl b)
    -- nothing is appended: nothing turns
    obtain ⟨e', he'⟩ := T.other
    obtain ⟨z, hz, hzp, hzs⟩ := T.zero
    obtain ⟨m, rfl⟩ : ∃ m, n = m + 1 := ⟨n - 1, by have := T.pos; omega⟩
    have hA := A.slV.cellsOf (by omega)
    have hB := B.cellsOf (by omega)
    have hform := A.form
    have hp : pAppend P ts v x h = some (v, h) := by
      rw [hform] at hA ⊢
      unfold pAppend
      rw [T.elem, he']
      simp only [isIntT_slice, Bool.false_eq_true, if_false, T.size, T.byt, lenE_of B, hz, hA, hB]
      rw [if_pos (by simp)]
      simp
    exact ⟨v, h, hp, by simpa using A.slV, fun i _ _ => rfl⟩
  · have hpos : 0 < rows'.length := List.length_pos_iff.2 hne
    have A' := A.slV
    rw [A.form] at A' ⊢
    obtain ⟨h', h1, h2, hz, h3, h4⟩ := append_new T A' B A.sz (by omega) hbig hone
    refine ⟨_, h', h1, SlX.slV (b := h.n) ⟨by simp, h2, hz⟩, fun i hi hb => h4 i hi fun a' ha => ?_⟩
    cases ha
    exact hb
theorem app22 : AppT Try.prog #[22, 22] 30 1 8 := ⟨by kernel_rfl, ⟨30, by kernel_rfl⟩, sz30, by omega, by kernel_rfl, ⟨_, ze30, rfl, rfl⟩⟩
theorem bs22e (h : AH) : pBuildSlice Try.prog 22 0 #[] h = some (.slice (some ⟨h.n, 0, none⟩) 0 0, h.alloc (.cells [] 30 true)) := by kernel_rfl
theorem one_wrows (l : List Int) : (l.map wrow).flatten.all oneCell = true := by
  induction l with
  | nil => rfl
  | cons c l ih => simp only [List.map_cons, List.flatten_cons, List.all_append, ih, Bool.and_true]; rfl
theorem one_brows (l : List Int) : (l.map brow).flatten.all oneCell = true := by
  induction l with
  | nil => rfl
  | cons c l ih => simp only [List.map_cons, List.flatten_cons, List.all_append, ih, Bool.and_true]; rfl
theorem f11c {k : Nat} {h : AH} {v : Value} {l : List Int} (S : Words h v l) (hl : l.length ≤ 2 ^ 30) : Tl (eInv env (k + 1) (.func 11) #[] #[v] h) fun r => ∃ b', SlX Try.prog r.2 r.1 1 b' (l.map wrow) ∧ h.n ≤ b' ∧ Grow h r.2 := by
  rw [F11_call]
  unfold F11
  repeat (with_reducible apply Tl.val; focus (simp only [bnd_some, bin_add, bin_sub, bin_mul, bin_lss, bin_leq, bin_gtr, bin_geq, bin_eql, bin_neq, un_not, un_neg, goInt, gd_tt, gd_ff, gd_tf, gd_ft, gd_sk, gd3_tt, gd3_ff, gd3_tf, gd3_ft, gd3_sk, Option.map_some, lt_some, pick_t, pick_f, Nat.zero_add, Bool.not_true, Bool.not_false, Bool.true_and, Bool.false_and, Bool.and_true, Bool.and_false, cond_true, cond_false, beq_self_eq_true, Int.reduceBEq, decide_true, decide_false, ld3, ld5, ld25, ld30, conv_int u30 u5, conv_int u5 u3, bin_eql_bool u4, bin_neq_bool u4, xor64u, and64u, or64u, or8, and8, ex0, ex1, bs22e] <;> with_reducible rfl))
  have A : SlX Try.prog (h.alloc (.cells [] 30 true)) (.slice (some ⟨h.n, 0, none⟩) 0 0) 1 h.n [] :=
    ⟨rfl, ⟨⟨[], 30, AH.get_alloc_new _ _, fun h => absurd rfl h⟩, fun r hr => (by cases hr)⟩, szOk_of (AH.get_alloc_new _ _) sz30⟩
  obtain ⟨v', h', b', e1, e2, e3, e4⟩ := append_own app22 A (SlV.grow S (Grow.alloc _ _)) (by simp; omega) (one_wrows l) (Nat.le_refl h.n)
  rw [List.nil_append] at e2
  refine Tl.val e1 ?_
  exact ⟨_, rfl, b', e2, e3, (Grow.alloc _ _).trans' e4⟩
def Bytes (h : AH) (v : Value) (l : List Int) : Prop := SlV Try.prog h v 1 (l.map brow)
theorem Bytes.len {h h' : AH} {v : Value} {l : List Int} (S : Bytes h v l) : pLen Try.prog #[25] v h' = some (.int .i64 l.length) := by
  have := SlV.len S u25 (h' := h')
  simpa using this
theorem Bytes.at_ {h : AH} {v : Value} {l : List Int} (S : Bytes h v l) {i : Nat} {c : Int} (hi : l[i]? = some c) :
    ∃ b o, pIndexAddr Try.prog 25 v (.int .i64 i) = some (.pointer (some ⟨b, o, none⟩)) ∧ h.cell b o = some (.int .u8 c) := by
  obtain ⟨b, o, h1, h2⟩ := SlV.at_ S (t := 25) (k := .i64) (i := i) (r := brow c) (by simp [hi]) u25 sz5
  exact ⟨b, o, h1, Ev.cell_of_row (j := 0) h2 (by omega)⟩
theorem f12_loop {β : Type} {k : Nat} {Q : β → Prop} {h : AH} {v w : Value} {l : List Int} (A : Bytes h v l) (B : Bytes h w l) (hl : l.length ≤ 2 ^ 40) {ke0 : Value → Value → Value → Value → AH → Option β} {kr : Value → AH → Option β}
    (hk : ∀ y5 y, Tl (ke0 v w y5 y h) Q) (n : Nat) : ∀ {i j : Nat}, i + n = l.length → n < j → Tl (F12_lrlrr (eInv env k) k j v w (.int .i64 i) h ke0 kr) Q := by
  have hlen : ∀ h', pLen Try.prog #[25] v h' = some (.int .i64 l.length) := fun h' => A.len
  induction n with
  | zero =>
    intro i j hi hj
    obtain ⟨j, rfl⟩ : ∃ q, j = q + 1 := ⟨j - 1, by omega⟩
    simp only [F12_lrlrr]
    have e : decide ((i : Int) < (l.length : Int)) = false := by simp; omega
    repeat (with_reducible apply Tl.val; focus (simp only [bnd_some, bin_add, bin_sub, bin_mul, bin_lss, bin_leq, bin_gtr, bin_geq, bin_eql, bin_neq, un_not, un_neg, goInt, gd_tt, gd_ff, gd_tf, gd_ft, gd_sk, gd3_tt, gd3_ff, gd3_tf, gd3_ft, gd3_sk, Option.map_some, lt_some, pick_t, pick_f, Nat.zero_add, Bool.not_true, Bool.not_false, Bool.true_and, Bool.false_and, Bool.and_true, Bool.and_false, cond_true, cond_false, beq_self_eq_true, Int.reduceBEq, decide_true, decide_false, ld3, ld5, ld25, ld30, conv_int u30 u5, conv_int u5 u3, bin_eql_bool u4, bin_neq_bool u4, xor64u, and64u, or64u, or8, and8, ex0, ex1, hlen, e] <;> with_reducible rfl))
    with_reducible refine Tl.brF ?_
    exact hk _ _
  | succ n ih =>
    intro i j hi hj
    obtain ⟨j, rfl⟩ : ∃ q, j = q + 1 := ⟨j - 1, by omega⟩
    have hlt : i < l.length := by omega
    obtain ⟨c, hc⟩ : ∃ c, l[i]? = some c := ⟨_, List.getElem?_eq_getElem hlt⟩
    obtain ⟨b, o, hx, h2⟩ := A.at_ hc
    obtain ⟨b', o', hx', h2'⟩ := B.at_ hc
    simp only [F12_lrlrr]
    have e : decide ((i : Int) < (l.length : Int)) = true := by simp; omega
    have w1 : IntKind.i64.wrap ((i : Int) + 1) = ((i + 1 : Nat) : Int) := by rw [wrap_i64']; split <;> omega
    have ne : (c != c) = false := by simp
    repeat (with_reducible apply Tl.val; focus (simp only [bnd_some, bin_add, bin_sub, bin_mul, bin_lss, bin_leq, bin_gtr, bin_geq, bin_eql, bin_neq, un_not, un_neg, goInt, gd_tt, gd_ff, gd_tf, gd_ft, gd_sk, gd3_tt, gd3_ff, gd3_tf, gd3_ft, gd3_sk, Option.map_some, lt_some, pick_t, pick_f, Nat.zero_add, Bool.not_true, Bool.not_false, Bool.true_and, Bool.false_and, Bool.and_true, Bool.and_false, cond_true, cond_false, beq_self_eq_true, Int.reduceBEq, decide_true, decide_false, ld3, ld5, ld25, ld30, conv_int u30 u5, conv_int u5 u3, bin_eql_bool u4, bin_neq_bool u4, xor64u, and64u, or64u, or8, and8, ex0, ex1, hlen, e] <;> with_reducible rfl))
    with_reducible refine Tl.brT ?_
    repeat (with_reducible apply Tl.val; focus (simp only [bnd_some, bin_add, bin_sub, bin_mul, bin_lss, bin_leq, bin_gtr, bin_geq, bin_eql, bin_neq, un_not, un_neg, goInt, gd_tt, gd_ff, gd_tf, gd_ft, gd_sk, gd3_tt, gd3_ff, gd3_tf, gd3_ft, gd3_sk, Option.map_some, lt_some, pick_t, pick_f, Nat.zero_add, Bool.not_true, Bool.not_false, Bool.true_and, Bool.false_and, Bool.and_true, Bool.and_false, cond_true, cond_false, beq_self_eq_true, Int.reduceBEq, decide_true, decide_false, ld3, ld5, ld25, ld30, conv_int u30 u5, conv_int u5 u3, bin_eql_bool u4, bin_neq_bool u4, xor64u, and64u, or64u, or8, and8, ex0, ex1, hx, h2, hx', h2', ne] <;> with_reducible rfl))
    with_reducible refine Tl.brF ?_
    repeat (with_reducible apply Tl.val; focus (simp only [bnd_some, bin_add, bin_sub, bin_mul, bin_lss, bin_leq, bin_gtr, bin_geq, bin_eql, bin_neq, un_not, un_neg, goInt, gd_tt, gd_ff, gd_tf, gd_ft, gd_sk, gd3_tt, gd3_ff, gd3_tf, gd3_ft, gd3_sk, Option.map_some, lt_some, pick_t, pick_f, Nat.zero_add, Bool.not_true, Bool.not_false, Bool.true_and, Bool.false_and, Bool.and_true, Bool.and_false, cond_true, cond_false, beq_self_eq_true, Int.reduceBEq, decide_true, decide_false, ld3, ld5, ld25, ld30, conv_int u30 u5, conv_int u5 u3, bin_eql_bool u4, bin_neq_bool u4, xor64u, and64u, or64u, or8, and8, ex0, ex1, w1] <;> with_reducible rfl))
    exact ih (by omega) (by omega)
theorem f12c {k : Nat} {h : AH} {v w : Value} {l : List Int} (A : Bytes h v l) (B : Bytes h w l) (hl : l.length ≤ 2 ^ 40) (hk : l.length < k) : eInv env (k + 1) (.func 12) #[] #[v, w] h = some (.bool true, h) := by
  have hv : ∀ h', pLen Try.prog #[25] v h' = some (.int .i64 l.length) := fun h' => A.len
  have hw : ∀ h', pLen Try.prog #[25] w h' = some (.int .i64 l.length) := fun h' => B.len
  have T : Tl (F12 (eInv env k) k v w h) fun r => r = (.bool true, h) := by
    unfold F12
    have ne : (((l.length : Nat) : Int) != ((l.length : Nat) : Int)) = false := by simp
    repeat (with_reducible apply Tl.val; focus (simp only [bnd_some, bin_add, bin_sub, bin_mul, bin_lss, bin_leq, bin_gtr, bin_geq, bin_eql, bin_neq, un_not, un_neg, goInt, gd_tt, gd_ff, gd_tf, gd_ft, gd_sk, gd3_tt, gd3_ff, gd3_tf, gd3_ft, gd3_sk, Option.map_some, lt_some, pick_t, pick_f, Nat.zero_add, Bool.not_true, Bool.not_false, Bool.true_and, Bool.false_and, Bool.and_true, Bool.and_false, cond_true, cond_false, beq_self_eq_true, Int.reduceBEq, decide_true, decide_false, ld3, ld5, ld25, ld30, conv_int u30 u5, conv_int u5 u3, bin_eql_bool u4, bin_neq_bool u4, xor64u, and64u, or64u, or8, and8, ex0, ex1, hv, hw, ne] <;> with_reducible rfl))
    with_reducible refine Tl.brF ?_
    refine f12_loop A B hl ?_ l.length (i := 0) (by omega) hk
    intro y5 y
    exact ⟨_, rfl, rfl⟩
  obtain ⟨r, h1, h2⟩ := T
  rw [F12_call, h1, h2]
/-! ### Joined -/
theorem held_zero : ∀ (l : List Int) (s : PS), (s.n = 0 → s.held = 0) → ((l.foldl bitS s).n = 0 → (l.foldl bitS s).held = 0) := by
  intro l
  induction l with
  | nil => intro s h; exact h
  | cons b l ih =>
    intro s h
    rw [List.foldl_cons]
    refine ih _ fun q => ?_
    unfold bitS at q ⊢
    split at q
    · rename_i hh; rw [if_pos hh]
    · simp at q
theorem fold_prefix (o : List Int) : ∀ (l : List Int) (s : PS), l.foldl bitS ⟨o ++ s.out, s.held, s.n⟩ = ⟨o ++ (l.foldl bitS s).out, (l.foldl bitS s).held, (l.foldl bitS s).n⟩ := by
  intro l
  induction l with
  | nil => intro s; rfl
  | cons b l ih =>
    intro s
    rw [List.foldl_cons, List.foldl_cons, ← ih]
    congr 1
    unfold bitS heldS
    simp only
    split
    · simp
    · rfl
theorem putS_join (w : Nat) (l m : List Int) (h : l.length * w % 8 = 0) : putS w (l ++ m) = putS w l ++ putS w m := by
  have e : allBits w (l ++ m) = allBits w l ++ allBits w m := by simp [allBits]
  obtain ⟨c1, c2⟩ := fold_cnt (allBits w l) ⟨[], 0, 0⟩ (by decide)
  have hz := held_zero (allBits w l) ⟨[], 0, 0⟩ (fun _ => rfl)
  rw [allBits_len] at c1
  unfold putS
  rw [e, List.foldl_append]
  generalize (allBits w l).foldl bitS ⟨[], 0, 0⟩ = s at c1 c2 hz
  have c1 : 8 * s.out.length + s.n = l.length * w := by simpa [PS.cnt] using c1
  have n0 : s.n = 0 := by omega
  have h0 := hz n0
  have hs : s = ⟨s.out ++ ([] : List Int), 0, 0⟩ := by
    obtain ⟨a, b, c⟩ := s
    simp at n0 h0
    simp [n0, h0]
  have key := fold_prefix s.out (allBits w m) ⟨[], 0, 0⟩
  simp only at key
  rw [← hs] at key
  rw [key]
  simp only [n0]
  split <;> simp
theorem ints_append (l m : List Nat) : ints (l ++ m) = ints l ++ ints m := by simp [ints]
theorem putS_len (w : Nat) (l : List Int) (hw : w ≤ 64) (hl : l.length ≤ 250) : (putS w l).length ≤ 3000 := by
  obtain ⟨c1, c2⟩ := fold_cnt (allBits w l) ⟨[], 0, 0⟩ (by decide)
  rw [allBits_len] at c1
  have hm : l.length * w ≤ 250 * 64 := Nat.mul_le_mul hl hw
  unfold putS
  generalize (allBits w l).foldl bitS ⟨[], 0, 0⟩ = s at c1 c2
  have c1 : 8 * s.out.length + s.n = l.length * w := by simpa [PS.cnt] using c1
  simp only
  split
  · simp; omega
  · omega
theorem f3 {k : Nat} {h : AH} {v0 v1 : Value} {l m : List Nat} (A : Words h v0 (ints l)) (B : Words h v1 (ints m)) (hx : ∀ x ∈ l, x < 18446744073709551616) (hy : ∀ x ∈ m, x < 18446744073709551616) (n : Int) :
    Tl (F3 (eInv env (k + 4000)) (k + 4000) v0 v1 (.int .i64 n) h) fun r => r.1 = .bool true := by
  unfold F3
  have hv : ∀ h', pLen Try.prog #[22] v0 h' = some (.int .i64 l.length) := fun h' => by have := A.len (h' := h'); simpa [ints] using this
  have hw : ∀ h', pLen Try.prog #[22] v1 h' = some (.int .i64 m.length) := fun h' => by have := B.len (h' := h'); simpa [ints] using this
  obtain ⟨w, hwl, pick⟩ := f9c (k := k + 3999) n h
  repeat (with_reducible apply Tl.val; focus (simp only [bnd_some, bin_add, bin_sub, bin_mul, bin_lss, bin_leq, bin_gtr, bin_geq, bin_eql, bin_neq, un_not, un_neg, goInt, gd_tt, gd_ff, gd_tf, gd_ft, gd_sk, gd3_tt, gd3_ff, gd3_tf, gd3_ft, gd3_sk, Option.map_some, lt_some, pick_t, pick_f, Nat.zero_add, Bool.not_true, Bool.not_false, Bool.true_and, Bool.false_and, Bool.and_true, Bool.and_false, cond_true, cond_false, beq_self_eq_true, Int.reduceBEq, decide_true, decide_false, ld3, ld5, ld25, ld30, conv_int u30 u5, conv_int u5 u3, bin_eql_bool u4, bin_neq_bool u4, xor64u, and64u, or64u, or8, and8, ex0, ex1, lives_call] <;> with_reducible rfl))
  with_reducible refine Tl.brF ?_
  cases q1 : decide ((l.length : Int) > 100)
  case true =>
    repeat (with_reducible apply Tl.val; focus (simp only [bnd_some, bin_add, bin_sub, bin_mul, bin_lss, bin_leq, bin_gtr, bin_geq, bin_eql, bin_neq, un_not, un_neg, goInt, gd_tt, gd_ff, gd_tf, gd_ft, gd_sk, gd3_tt, gd3_ff, gd3_tf, gd3_ft, gd3_sk, Option.map_some, lt_some, pick_t, pick_f, Nat.zero_add, Bool.not_true, Bool.not_false, Bool.true_and, Bool.false_and, Bool.and_true, Bool.and_false, cond_true, cond_false, beq_self_eq_true, Int.reduceBEq, decide_true, decide_false, ld3, ld5, ld25, ld30, conv_int u30 u5, conv_int u5 u3, bin_eql_bool u4, bin_neq_bool u4, xor64u, and64u, or64u, or8, and8, ex0, ex1, hv, q1] <;> with_reducible rfl))
    with_reducible refine Tl.brT ?_
    exact ⟨_, rfl, rfl⟩
  cases q2 : decide ((m.length : Int) > 100)
  case true =>
    repeat (with_reducible apply Tl.val; focus (simp only [bnd_some, bin_add, bin_sub, bin_mul, bin_lss, bin_leq, bin_gtr, bin_geq, bin_eql, bin_neq, un_not, un_neg, goInt, gd_tt, gd_ff, gd_tf, gd_ft, gd_sk, gd3_tt, gd3_ff, gd3_tf, gd3_ft, gd3_sk, Option.map_some, lt_some, pick_t, pick_f, Nat.zero_add, Bool.not_true, Bool.not_false, Bool.true_and, Bool.false_and, Bool.and_true, Bool.and_false, cond_true, cond_false, beq_self_eq_true, Int.reduceBEq, decide_true, decide_false, ld3, ld5, ld25, ld30, conv_int u30 u5, conv_int u5 u3, bin_eql_bool u4, bin_neq_bool u4, xor64u, and64u, or64u, or8, and8, ex0, ex1, hv, q1, hw, q2] <;> with_reducible rfl))
    with_reducible refine Tl.brT ?_
    exact ⟨_, rfl, rfl⟩
  have ll : l.length ≤ 100 := by simp at q1; omega
  have lm : m.length ≤ 100 := by simp at q2; omega
  repeat (with_reducible apply Tl.val; focus (simp only [bnd_some, bin_add, bin_sub, bin_mul, bin_lss, bin_leq, bin_gtr, bin_geq, bin_eql, bin_neq, un_not, un_neg, goInt, gd_tt, gd_ff, gd_tf, gd_ft, gd_sk, gd3_tt, gd3_ff, gd3_tf, gd3_ft, gd3_sk, Option.map_some, lt_some, pick_t, pick_f, Nat.zero_add, Bool.not_true, Bool.not_false, Bool.true_and, Bool.false_and, Bool.and_true, Bool.and_false, cond_true, cond_false, beq_self_eq_true, Int.reduceBEq, decide_true, decide_false, ld3, ld5, ld25, ld30, conv_int u30 u5, conv_int u5 u3, bin_eql_bool u4, bin_neq_bool u4, xor64u, and64u, or64u, or8, and8, ex0, ex1, hv, q1, hw, q2] <;> with_reducible rfl))
  with_reducible refine Tl.brF ?_
  repeat (with_reducible apply Tl.val; focus (simp only [bnd_some, bin_add, bin_sub, bin_mul, bin_lss, bin_leq, bin_gtr, bin_geq, bin_eql, bin_neq, un_not, un_neg, goInt, gd_tt, gd_ff, gd_tf, gd_ft, gd_sk, gd3_tt, gd3_ff, gd3_tf, gd3_ft, gd3_sk, Option.map_some, lt_some, pick_t, pick_f, Nat.zero_add, Bool.not_true, Bool.not_false, Bool.true_and, Bool.false_and, Bool.and_true, Bool.and_false, cond_true, cond_false, beq_self_eq_true, Int.reduceBEq, decide_true, decide_false, ld3, ld5, ld25, ld30, conv_int u30 u5, conv_int u5 u3, bin_eql_bool u4, bin_neq_bool u4, xor64u, and64u, or64u, or8, and8, ex0, ex1, pick] <;> with_reducible rfl))
  have il : (ints l).length = l.length := by simp [ints]
  have im : (ints m).length = m.length := by simp [ints]
  have C1 := f10 (k := k + 3699) A (by omega) (by omega) hwl hx
  rw [← F10_call] at C1
  with_reducible refine Tl.seq C1 ?_
  rintro ⟨r1, h1⟩ P1
  have g1 : Grow h h1 := by rcases P1 with ⟨_, _, g⟩ | ⟨_, _, _, _, _, _, g⟩ <;> exact g
  have C2 := f10 (k := k + 3699) (B.grow g1) (by omega) (by omega) hwl hy
  rw [← F10_call] at C2
  -- what comes behind, whatever the first one is
  have D : ∀ (e1 : Int) (a1 : Value), r1 = .tuple #[a1, .int .i64 e1] → Tl (Ev.bnd (pExtract r1 0) fun x29 => Ev.bnd (pExtract r1 1) fun x30 => some (x29, x30)) fun r => r = (a1, .int .i64 e1) := by
    intro e1 a1 h
    subst h
    exact ⟨_, by simp only [ex0, ex1, bnd_some], rfl⟩
  clear D
  have W := width_append l m w
  have step : ∀ (e1 : Int) (a1 : Value), r1 = .tuple #[a1, .int .i64 e1] → True := fun _ _ _ => trivial
  clear step
  obtain ⟨a1, e1, hr1⟩ : ∃ a1 e1, r1 = .tuple #[a1, .int .i64 e1] := by
    rcases P1 with ⟨_, e, _⟩ | ⟨_, v', b, e, _⟩ <;> exact ⟨_, _, e⟩
  subst hr1
  repeat (with_reducible apply Tl.val; focus (simp only [bnd_some, bin_add, bin_sub, bin_mul, bin_lss, bin_leq, bin_gtr, bin_geq, bin_eql, bin_neq, un_not, un_neg, goInt, gd_tt, gd_ff, gd_tf, gd_ft, gd_sk, gd3_tt, gd3_ff, gd3_tf, gd3_ft, gd3_sk, Option.map_some, lt_some, pick_t, pick_f, Nat.zero_add, Bool.not_true, Bool.not_false, Bool.true_and, Bool.false_and, Bool.and_true, Bool.and_false, cond_true, cond_false, beq_self_eq_true, Int.reduceBEq, decide_true, decide_false, ld3, ld5, ld25, ld30, conv_int u30 u5, conv_int u5 u3, bin_eql_bool u4, bin_neq_bool u4, xor64u, and64u, or64u, or8, and8, ex0, ex1] <;> with_reducible rfl))
  with_reducible refine Tl.seq C2 ?_
  rintro ⟨r2, h2⟩ P2
  have g2 : Grow h1 h2 := by rcases P2 with ⟨_, _, g⟩ | ⟨_, _, _, _, _, _, g⟩ <;> exact g
  obtain ⟨a2, e2, hr2⟩ : ∃ a2 e2, r2 = .tuple #[a2, .int .i64 e2] := by
    rcases P2 with ⟨_, e, _⟩ | ⟨_, v', b, e, _⟩ <;> exact ⟨_, _, e⟩
  subst hr2
  repeat (with_reducible apply Tl.val; focus (simp only [bnd_some, bin_add, bin_sub, bin_mul, bin_lss, bin_leq, bin_gtr, bin_geq, bin_eql, bin_neq, un_not, un_neg, goInt, gd_tt, gd_ff, gd_tf, gd_ft, gd_sk, gd3_tt, gd3_ff, gd3_tf, gd3_ft, gd3_sk, Option.map_some, lt_some, pick_t, pick_f, Nat.zero_add, Bool.not_true, Bool.not_false, Bool.true_and, Bool.false_and, Bool.and_true, Bool.and_false, cond_true, cond_false, beq_self_eq_true, Int.reduceBEq, decide_true, decide_false, ld3, ld5, ld25, ld30, conv_int u30 u5, conv_int u5 u3, bin_eql_bool u4, bin_neq_bool u4, xor64u, and64u, or64u, or8, and8, ex0, ex1] <;> with_reducible rfl))
  with_reducible refine Tl.seq (f11c (k := k + 3999) (A.grow (g1.trans g2)) (by rw [il]; omega)) ?_
  rintro ⟨o, h3⟩ ⟨bo, X, hbo, g3⟩
  simp only at X g3
  obtain ⟨v', h4, b', p1, p2, p3, p4⟩ := append_own app22 X (SlV.grow B ((g1.trans g2).trans g3)) (by simp [il, im]; omega) (one_wrows (ints m)) (n0 := h2.n) hbo
  with_reducible refine Tl.val p1 ?_
  have g4 : Grow h2 h4 := g3.trans' p4
  have AB : Words h4 v' (ints (l ++ m)) := by
    rw [ints_append]
    unfold Words
    rw [List.map_append]
    exact p2.slV
  have C3 := f10 (k := k + 3699) AB (by simp; omega) (by simp; omega) hwl (fun x hq => by
    rcases List.mem_append.1 hq with hq | hq
    · exact hx x hq
    · exact hy x hq)
  rw [← F10_call] at C3
  with_reducible refine Tl.seq C3 ?_
  rintro ⟨r3, h5⟩ P3
  obtain ⟨a3, e3, hr3⟩ : ∃ a3 e3, r3 = .tuple #[a3, .int .i64 e3] := by
    rcases P3 with ⟨_, e, _⟩ | ⟨_, v', b, e, _⟩ <;> exact ⟨_, _, e⟩
  subst hr3
  have hv5 : pLen Try.prog #[22] v0 h5 = some (.int .i64 l.length) := hv h5
  -- the errors
  have inj : ∀ {a b : Value} {x y : Int}, Value.tuple #[a, .int .i64 x] = .tuple #[b, .int .i64 y] → a = b ∧ x = y := by
    intro a b x y h
    simpa using h
  have k1 : (e1 == 0) = decide (widthN l ≤ w) := by
    rcases P1 with ⟨q, e, _⟩ | ⟨q, _, _, e, _⟩
    · obtain ⟨_, rfl⟩ := inj e
      have : ¬ widthN l ≤ w := by omega
      simp [this]
    · obtain ⟨_, rfl⟩ := inj e
      simp [q]
  have k2 : (e2 == 0) = decide (widthN m ≤ w) := by
    rcases P2 with ⟨q, e, _⟩ | ⟨q, _, _, e, _⟩
    · obtain ⟨_, rfl⟩ := inj e
      have : ¬ widthN m ≤ w := by omega
      simp [this]
    · obtain ⟨_, rfl⟩ := inj e
      simp [q]
  have k3 : (e3 == 0) = decide (widthN (l ++ m) ≤ w) := by
    rcases P3 with ⟨q, e, _⟩ | ⟨q, _, _, e, _⟩
    · obtain ⟨_, rfl⟩ := inj e
      have : ¬ widthN (l ++ m) ≤ w := by omega
      simp [this]
    · obtain ⟨_, rfl⟩ := inj e
      simp [q]
  have k3' : (e3 != 0) = !(e3 == 0) := rfl
  by_cases w3 : widthN (l ++ m) ≤ w
  · obtain ⟨w1, w2⟩ := W.1 w3
    have t1 : (e1 == 0) = true := by rw [k1]; simp [w1]
    have t2 : (e2 == 0) = true := by rw [k2]; simp [w2]
    have t3 : (e3 == 0) = true := by rw [k3]; simp [w3]
    have t4 : (e3 != 0) = false := by rw [k3', t3]; rfl
    have hmul : IntKind.i64.wrap ((l.length : Int) * (w : Int)) = ((l.length * w : Nat) : Int) := by
      have hm : l.length * w ≤ 100 * 64 := Nat.mul_le_mul ll hwl
      have : (l.length : Int) * (w : Int) = ((l.length * w : Nat) : Int) := by simp
      rw [this, wrap_i64']; split <;> omega
    have hrem : ((l.length * w : Nat) : Int).tmod 8 = ((l.length * w % 8 : Nat) : Int) := by
      rw [Int.tmod_eq_emod_of_nonneg (by omega)]; omega
    rcases P1 with ⟨q, _⟩ | ⟨_, v1', ba, e, XA, hba, _⟩
    · omega
    obtain ⟨rfl, _⟩ := inj e
    rcases P2 with ⟨q, _⟩ | ⟨_, v2', bb, e, XB, hbb, _⟩
    · omega
    obtain ⟨rfl, _⟩ := inj e
    rcases P3 with ⟨q, _⟩ | ⟨_, v3', bc, e, XC, hbc, g5⟩
    · omega
    obtain ⟨rfl, _⟩ := inj e
    simp only at XA XB XC hba hbb hbc g5
    cases q8 : (((l.length * w % 8 : Nat) : Int) != 0)
    · have h8 : l.length * w % 8 = 0 := by simp at q8; omega
      repeat (with_reducible apply Tl.val; focus (simp only [bnd_some, bin_add, bin_sub, bin_mul, bin_lss, bin_leq, bin_gtr, bin_geq, bin_eql, bin_neq, un_not, un_neg, goInt, gd_tt, gd_ff, gd_tf, gd_ft, gd_sk, gd3_tt, gd3_ff, gd3_tf, gd3_ft, gd3_sk, Option.map_some, lt_some, pick_t, pick_f, Nat.zero_add, Bool.not_true, Bool.not_false, Bool.true_and, Bool.false_and, Bool.and_true, Bool.and_false, cond_true, cond_false, beq_self_eq_true, Int.reduceBEq, decide_true, decide_false, ld3, ld5, ld25, ld30, conv_int u30 u5, conv_int u5 u3, bin_eql_bool u4, bin_neq_bool u4, xor64u, and64u, or64u, or8, and8, ex0, ex1, t1, t2, t3, bin_neq_bool u4] <;> with_reducible rfl))
      with_reducible refine Tl.brF ?_
      repeat (with_reducible apply Tl.val; focus (simp only [bnd_some, bin_add, bin_sub, bin_mul, bin_lss, bin_leq, bin_gtr, bin_geq, bin_eql, bin_neq, un_not, un_neg, goInt, gd_tt, gd_ff, gd_tf, gd_ft, gd_sk, gd3_tt, gd3_ff, gd3_tf, gd3_ft, gd3_sk, Option.map_some, lt_some, pick_t, pick_f, Nat.zero_add, Bool.not_true, Bool.not_false, Bool.true_and, Bool.false_and, Bool.and_true, Bool.and_false, cond_true, cond_false, beq_self_eq_true, Int.reduceBEq, decide_true, decide_false, ld3, ld5, ld25, ld30, conv_int u30 u5, conv_int u5 u3, bin_eql_bool u4, bin_neq_bool u4, xor64u, and64u, or64u, or8, and8, ex0, ex1, t4, hv, hmul, bin_rem (show (8 : Int) ≠ 0 by decide), hrem, q8] <;> with_reducible rfl))
      with_reducible refine Tl.brF ?_
      have hlt := XA.lie.lt
      have XA5 := XA.keep ((g2.trans (g4.trans g5)).2 _ hlt)
      have XB5 : SlV Try.prog h5 a2 1 ((putS w (ints m)).map brow) := SlV.grow XB.slV (g4.trans g5)
      have sz1 := putS_len w (ints l) hwl (by omega)
      have sz2 := putS_len w (ints m) hwl (by omega)
      obtain ⟨vv, h6, e6, S6, o6⟩ := append_own2 app25 XA5 XB5 (by simp; omega) (one_brows _)
      with_reducible refine Tl.val e6 ?_
      rw [← List.map_append, ← putS_join w (ints l) (ints m) (by rw [il]; exact h8)] at S6
      have hltc := XC.lie.lt
      have XC6 : Bytes h6 a3 (putS w (ints l ++ ints m)) := by
        have := (XC.keep (o6 bc hltc (by
          have := XA.lie.lt
          have := (g2.trans g4).1
          omega))).slV
        rw [ints_append] at this
        exact this
      have sz3 := putS_len w (ints l ++ ints m) hwl (by simp [il, im]; omega)
      have same := f12c (k := k + 3999) XC6 S6 (by omega) (by omega)
      repeat (with_reducible apply Tl.val; focus (simp only [bnd_some, bin_add, bin_sub, bin_mul, bin_lss, bin_leq, bin_gtr, bin_geq, bin_eql, bin_neq, un_not, un_neg, goInt, gd_tt, gd_ff, gd_tf, gd_ft, gd_sk, gd3_tt, gd3_ff, gd3_tf, gd3_ft, gd3_sk, Option.map_some, lt_some, pick_t, pick_f, Nat.zero_add, Bool.not_true, Bool.not_false, Bool.true_and, Bool.false_and, Bool.and_true, Bool.and_false, cond_true, cond_false, beq_self_eq_true, Int.reduceBEq, decide_true, decide_false, ld3, ld5, ld25, ld30, conv_int u30 u5, conv_int u5 u3, bin_eql_bool u4, bin_neq_bool u4, xor64u, and64u, or64u, or8, and8, ex0, ex1, same] <;> with_reducible rfl))
      exact ⟨_, rfl, rfl⟩
    · repeat (with_reducible apply Tl.val; focus (simp only [bnd_some, bin_add, bin_sub, bin_mul, bin_lss, bin_leq, bin_gtr, bin_geq, bin_eql, bin_neq, un_not, un_neg, goInt, gd_tt, gd_ff, gd_tf, gd_ft, gd_sk, gd3_tt, gd3_ff, gd3_tf, gd3_ft, gd3_sk, Option.map_some, lt_some, pick_t, pick_f, Nat.zero_add, Bool.not_true, Bool.not_false, Bool.true_and, Bool.false_and, Bool.and_true, Bool.and_false, cond_true, cond_false, beq_self_eq_true, Int.reduceBEq, decide_true, decide_false, ld3, ld5, ld25, ld30, conv_int u30 u5, conv_int u5 u3, bin_eql_bool u4, bin_neq_bool u4, xor64u, and64u, or64u, or8, and8, ex0, ex1, t1, t2, t3, bin_neq_bool u4] <;> with_reducible rfl))
      with_reducible refine Tl.brF ?_
      repeat (with_reducible apply Tl.val; focus (simp only [bnd_some, bin_add, bin_sub, bin_mul, bin_lss, bin_leq, bin_gtr, bin_geq, bin_eql, bin_neq, un_not, un_neg, goInt, gd_tt, gd_ff, gd_tf, gd_ft, gd_sk, gd3_tt, gd3_ff, gd3_tf, gd3_ft, gd3_sk, Option.map_some, lt_some, pick_t, pick_f, Nat.zero_add, Bool.not_true, Bool.not_false, Bool.true_and, Bool.false_and, Bool.and_true, Bool.and_false, cond_true, cond_false, beq_self_eq_true, Int.reduceBEq, decide_true, decide_false, ld3, ld5, ld25, ld30, conv_int u30 u5, conv_int u5 u3, bin_eql_bool u4, bin_neq_bool u4, xor64u, and64u, or64u, or8, and8, ex0, ex1, t4, hv, hmul, bin_rem (show (8 : Int) ≠ 0 by decide), hrem, q8] <;> with_reducible rfl))
      with_reducible refine Tl.brT ?_
      exact ⟨_, rfl, rfl⟩
  · have t3 : (e3 == 0) = false := by rw [k3]; simp [w3]
    have t4 : (e3 != 0) = true := by rw [k3', t3]; rfl
    cases t1 : (e1 == 0)
    · repeat (with_reducible apply Tl.val; focus (simp only [bnd_some, bin_add, bin_sub, bin_mul, bin_lss, bin_leq, bin_gtr, bin_geq, bin_eql, bin_neq, un_not, un_neg, goInt, gd_tt, gd_ff, gd_tf, gd_ft, gd_sk, gd3_tt, gd3_ff, gd3_tf, gd3_ft, gd3_sk, Option.map_some, lt_some, pick_t, pick_f, Nat.zero_add, Bool.not_true, Bool.not_false, Bool.true_and, Bool.false_and, Bool.and_true, Bool.and_false, cond_true, cond_false, beq_self_eq_true, Int.reduceBEq, decide_true, decide_false, ld3, ld5, ld25, ld30, conv_int u30 u5, conv_int u5 u3, bin_eql_bool u4, bin_neq_bool u4, xor64u, and64u, or64u, or8, and8, ex0, ex1, t1, t3, bin_neq_bool u4] <;> with_reducible rfl))
      with_reducible refine Tl.brF ?_
      repeat (with_reducible apply Tl.val; focus (simp only [bnd_some, bin_add, bin_sub, bin_mul, bin_lss, bin_leq, bin_gtr, bin_geq, bin_eql, bin_neq, un_not, un_neg, goInt, gd_tt, gd_ff, gd_tf, gd_ft, gd_sk, gd3_tt, gd3_ff, gd3_tf, gd3_ft, gd3_sk, Option.map_some, lt_some, pick_t, pick_f, Nat.zero_add, Bool.not_true, Bool.not_false, Bool.true_and, Bool.false_and, Bool.and_true, Bool.and_false, cond_true, cond_false, beq_self_eq_true, Int.reduceBEq, decide_true, decide_false, ld3, ld5, ld25, ld30, conv_int u30 u5, conv_int u5 u3, bin_eql_bool u4, bin_neq_bool u4, xor64u, and64u, or64u, or8, and8, ex0, ex1, t4] <;> with_reducible rfl))
      with_reducible refine Tl.brT ?_
      exact ⟨_, rfl, rfl⟩
    · have t2 : (e2 == 0) = false := by
        rw [k1] at t1
        rw [k2]
        simp only [decide_eq_true_eq] at t1
        have : ¬ widthN m ≤ w := fun q => w3 (W.2 ⟨t1, q⟩)
        simp [this]
      repeat (with_reducible apply Tl.val; focus (simp only [bnd_some, bin_add, bin_sub, bin_mul, bin_lss, bin_leq, bin_gtr, bin_geq, bin_eql, bin_neq, un_not, un_neg, goInt, gd_tt, gd_ff, gd_tf, gd_ft, gd_sk, gd3_tt, gd3_ff, gd3_tf, gd3_ft, gd3_sk, Option.map_some, lt_some, pick_t, pick_f, Nat.zero_add, Bool.not_true, Bool.not_false, Bool.true_and, Bool.false_and, Bool.and_true, Bool.and_false, cond_true, cond_false, beq_self_eq_true, Int.reduceBEq, decide_true, decide_false, ld3, ld5, ld25, ld30, conv_int u30 u5, conv_int u5 u3, bin_eql_bool u4, bin_neq_bool u4, xor64u, and64u, or64u, or8, and8, ex0, ex1, t1, t2, t3, bin_neq_bool u4] <;> with_reducible rfl))
      with_reducible refine Tl.brF ?_
      repeat (with_reducible apply Tl.val; focus (simp only [bnd_some, bin_add, bin_sub, bin_mul, bin_lss, bin_leq, bin_gtr, bin_geq, bin_eql, bin_neq, un_not, un_neg, goInt, gd_tt, gd_ff, gd_tf, gd_ft, gd_sk, gd3_tt, gd3_ff, gd3_tf, gd3_ft, gd3_sk, Option.map_some, lt_some, pick_t, pick_f, Nat.zero_add, Bool.not_true, Bool.not_false, Bool.true_and, Bool.false_and, Bool.and_true, Bool.and_false, cond_true, cond_false, beq_self_eq_true, Int.reduceBEq, decide_true, decide_false, ld3, ld5, ld25, ld30, conv_int u30 u5, conv_int u5 u3, bin_eql_bool u4, bin_neq_bool u4, xor64u, and64u, or64u, or8, and8, ex0, ex1, t4] <;> with_reducible rfl))
      with_reducible refine Tl.brT ?_
      exact ⟨_, rfl, rfl⟩
end Go.Proofs.Ytodokclcffejfaa.Sh
