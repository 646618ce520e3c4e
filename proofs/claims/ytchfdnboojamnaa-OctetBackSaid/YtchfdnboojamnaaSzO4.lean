/- 'OctetOwn' comes to true. -/
import Derived.Test.YtchfdnboojamnaaSzO3
set_option linter.unusedVariables false
set_option linter.unusedSimpArgs false
namespace Go.Proofs.Ytchfdnboojamnaa.Sh
open Go Go.RowKit Go.Proofs.Ev

theorem slice_hi {h : AH} {b o len c n : Nat} (hn : n ≤ c) : pSlice Try.prog 25 (.slice (some ⟨b, o, none⟩) len c) none (some (.int .i64 n)) (some (.int .i64 n)) h = some (.slice (some ⟨b, o, none⟩) n n) := by
  unfold pSlice
  simp only [el25, Option.bind_some, sz5, intOr]
  rw [if_pos ⟨by omega, by omega, by omega, by omega, by simp, by simp⟩]
  simp
theorem slice_lo {h : AH} {b o len c n : Nat} (hn : n ≤ len) (hc : len ≤ c) (hz : szOk Try.prog (some ⟨b, o, none⟩) 1 h = true) : pSlice Try.prog 25 (.slice (some ⟨b, o, none⟩) len c) (some (.int .i64 n)) none none h = some (.slice (some ⟨b, o + n, none⟩) (len - n) (c - n)) := by
  unfold pSlice
  simp only [el25, Option.bind_some, sz5, intOr]
  rw [if_pos ⟨by omega, by omega, by omega, by omega, by simp, .inr (.inr hz)⟩]
  simp
theorem lie_drop {h : AH} {b o n : Nat} {own : Bool} {l : List Int} (L : Lie Try.prog h b o 1 own (l.map brow)) (hn : n ≤ l.length) : Lie Try.prog h b (o + n) 1 own ((l.drop n).map brow) := by
  have := L.part n (l.length - n) (by simpa using hn)
  rw [← List.map_drop, ← List.map_take, List.take_of_length_le (by simp), Nat.mul_one] at this
  exact this
theorem lie_take {h : AH} {b o n : Nat} {own : Bool} {l : List Int} (L : Lie Try.prog h b o 1 own (l.map brow)) : Lie Try.prog h b o 1 own ((l.take n).map brow) := by
  have := L.part 0 n (by simp)
  rw [List.drop_zero, ← List.map_take, Nat.zero_mul, Nat.add_zero] at this
  exact this
theorem store_rdr {h : AH} {br b o n c b' o' n' c' : Nat} (hg : h.get br = some (.cells [.slice (some ⟨b, o, none⟩) n c] 47 true)) :
    pStore Try.prog 25 (.pointer (some ⟨br, 0, none⟩)) (.slice (some ⟨b', o', none⟩) n' c') h = some (h.set br (.cells [.slice (some ⟨b', o', none⟩) n' c'] 47 true)) := by
  unfold pStore
  have e : (szT Try.prog 25 == some (Value.slice (some ⟨b', o', none⟩) n' c').cells.size) = true := by rw [sz25]; rfl
  have e2 : ((Value.slice (some ⟨b', o', none⟩) n' c').cells.toList.all oneCell) = true := rfl
  simp only [e, e2, Bool.and_self, if_true]
  unfold AH.put
  rw [hg]
  simp only
  rw [if_pos (by simp [Value.cells])]
  simp [splice, Value.cells]
/-- 'take'. -/
theorem f22 {k : Nat} {h : AH} {br bb : Nat} {l : List Int} (R : Rdr h br l bb) (hne : br ≠ bb) {n : Nat} (hn : n ≤ l.length) :
    Tl (F22 (eInv env k) k (.pointer (some ⟨br, 0, none⟩)) (.int .i64 n) h) fun r => ∃ b o, r.1 = .tuple #[.slice (some ⟨b, o, none⟩) n n, .int .i64 0] ∧ Bytes r.2 (.slice (some ⟨b, o, none⟩) n n) (l.take n) ∧ Rdr r.2 br (l.drop n) bb ∧
      (∀ i, i ≠ br → r.2.get i = h.get i) ∧ r.2.n = h.n := by
  obtain ⟨b, o, c, hg, hc, rfl, L, hz⟩ := R.box
  unfold F22
  have c0 : h.cell br 0 = some (.slice (some ⟨b, o, none⟩) l.length c) := (Ev.cell_of hg).trans rfl
  have ll : ∀ h', pLen Try.prog #[25] (.slice (some ⟨b, o, none⟩) l.length c) h' = some (.int .i64 l.length) := fun h' => len_slice u25
  have e : decide ((l.length : Int) < (n : Int)) = false := by simp; omega
  have s1 := slice_hi (h := h) (b := b) (o := o) (len := l.length) (c := c) (n := n) (by omega)
  have s2 := slice_lo (h := h) (b := b) (o := o) (len := l.length) (c := c) (n := n) hn hc hz
  have st := store_rdr (b' := b) (o' := o + n) (n' := l.length - n) (c' := c - n) hg
  repeat (with_reducible apply Tl.val; focus (simp only [bnd_some, bin_add, bin_sub, bin_mul, bin_lss, bin_leq, bin_gtr, bin_geq, bin_eql, bin_neq, un_not, un_neg, goInt, gd_tt, gd_ff, gd_tf, gd_ft, gd_sk, gd3_tt, gd3_ff, gd3_tf, gd3_ft, gd3_sk, Option.map_some, lt_some, pick_t, pick_f, Nat.zero_add, Bool.not_true, Bool.not_false, Bool.true_and, Bool.false_and, Bool.and_true, Bool.and_false, cond_true, cond_false, beq_self_eq_true, Int.reduceBEq, decide_true, decide_false, ld2, ld3, ld5, ld23, ld25, ld47, fa47_0, conv_int u2 u23, conv_int u23 u2, conv_int u23 u5, conv_int u5 u23, bin_eql_bool u4, xor64u, xor64i, and64u, or64u, or8, and8, nil32, ptr32, sl25, nilc, ex0, ex1, c0, ll, e] <;> with_reducible rfl))
  with_reducible refine Tl.brF ?_
  repeat (with_reducible apply Tl.val; focus (simp only [bnd_some, bin_add, bin_sub, bin_mul, bin_lss, bin_leq, bin_gtr, bin_geq, bin_eql, bin_neq, un_not, un_neg, goInt, gd_tt, gd_ff, gd_tf, gd_ft, gd_sk, gd3_tt, gd3_ff, gd3_tf, gd3_ft, gd3_sk, Option.map_some, lt_some, pick_t, pick_f, Nat.zero_add, Bool.not_true, Bool.not_false, Bool.true_and, Bool.false_and, Bool.and_true, Bool.and_false, cond_true, cond_false, beq_self_eq_true, Int.reduceBEq, decide_true, decide_false, ld2, ld3, ld5, ld23, ld25, ld47, fa47_0, conv_int u2 u23, conv_int u23 u2, conv_int u23 u5, conv_int u5 u23, bin_eql_bool u4, xor64u, xor64i, and64u, or64u, or8, and8, nil32, ptr32, sl25, nilc, ex0, ex1, c0, s1, s2, st, kSt, Option.map_some] <;> with_reducible rfl))
  have other : ∀ i, i ≠ br → (h.set br (.cells [.slice (some ⟨b, o + n, none⟩) (l.length - n) (c - n)] 47 true)).get i = h.get i := fun i hi => AH.get_set_other h _ (fun q => hi q.symm)
  have hb : b ≠ br := fun q => hne q.symm
  refine ⟨_, rfl, b, o, rfl, .inr ⟨b, o, n, true, by simp [Nat.min_eq_left hn], by simp; omega, (lie_take L).grow (other b hb)⟩, ⟨b, o + n, c - n, ?_, by simp; omega, rfl, (lie_drop L hn).grow (other b hb), ?_⟩, other, by simp⟩
  · rw [AH.get_set_same h _ _ hg]; simp
  · unfold szOk at hz ⊢
    simp only at hz ⊢
    rw [other b hb]; exact hz
/-- 'Bytes' of a reader that has so many. -/
theorem f17c {k : Nat} {h : AH} {br bb : Nat} {l : List Int} (R : Rdr h br l bb) (hne : br ≠ bb) {n : Nat} (hn : n ≤ l.length) (hl : l.length ≤ 2 ^ 30) :
    Tl (eInv env (k + 3) (.func 17) #[] #[.pointer (some ⟨br, 0, none⟩), .int .i64 n] h) fun r => ∃ v', r.1 = .tuple #[v', .int .i64 0] ∧ Bytes r.2 v' (l.take n) ∧ ∀ i, i < h.n → i ≠ br → r.2.get i = h.get i := by
  rw [F17_call]
  unfold F17
  have e : decide ((n : Int) < 0) = false := by simp
  repeat (with_reducible apply Tl.val; focus (simp only [bnd_some, bin_add, bin_sub, bin_mul, bin_lss, bin_leq, bin_gtr, bin_geq, bin_eql, bin_neq, un_not, un_neg, goInt, gd_tt, gd_ff, gd_tf, gd_ft, gd_sk, gd3_tt, gd3_ff, gd3_tf, gd3_ft, gd3_sk, Option.map_some, lt_some, pick_t, pick_f, Nat.zero_add, Bool.not_true, Bool.not_false, Bool.true_and, Bool.false_and, Bool.and_true, Bool.and_false, cond_true, cond_false, beq_self_eq_true, Int.reduceBEq, decide_true, decide_false, ld2, ld3, ld5, ld23, ld25, ld47, fa47_0, conv_int u2 u23, conv_int u23 u2, conv_int u23 u5, conv_int u5 u23, bin_eql_bool u4, xor64u, xor64i, and64u, or64u, or8, and8, nil32, ptr32, sl25, nilc, ex0, ex1] <;> with_reducible rfl))
  with_reducible refine Tl.brF ?_
  repeat (with_reducible apply Tl.val; focus (simp only [bnd_some, bin_add, bin_sub, bin_mul, bin_lss, bin_leq, bin_gtr, bin_geq, bin_eql, bin_neq, un_not, un_neg, goInt, gd_tt, gd_ff, gd_tf, gd_ft, gd_sk, gd3_tt, gd3_ff, gd3_tf, gd3_ft, gd3_sk, Option.map_some, lt_some, pick_t, pick_f, Nat.zero_add, Bool.not_true, Bool.not_false, Bool.true_and, Bool.false_and, Bool.and_true, Bool.and_false, cond_true, cond_false, beq_self_eq_true, Int.reduceBEq, decide_true, decide_false, ld2, ld3, ld5, ld23, ld25, ld47, fa47_0, conv_int u2 u23, conv_int u23 u2, conv_int u23 u5, conv_int u5 u23, bin_eql_bool u4, xor64u, xor64i, and64u, or64u, or8, and8, nil32, ptr32, sl25, nilc, ex0, ex1, e] <;> with_reducible rfl))
  with_reducible refine Tl.brF ?_
  have T := f22 (k := k + 1) R hne hn
  rw [← F22_call] at T
  with_reducible refine Tl.seq T ?_
  rintro ⟨x, h1⟩ ⟨b, o, e1, B, R1, g1, n1⟩
  simp only at e1 B R1 g1 n1
  subst e1
  repeat (with_reducible apply Tl.val; focus (simp only [bnd_some, bin_add, bin_sub, bin_mul, bin_lss, bin_leq, bin_gtr, bin_geq, bin_eql, bin_neq, un_not, un_neg, goInt, gd_tt, gd_ff, gd_tf, gd_ft, gd_sk, gd3_tt, gd3_ff, gd3_tf, gd3_ft, gd3_sk, Option.map_some, lt_some, pick_t, pick_f, Nat.zero_add, Bool.not_true, Bool.not_false, Bool.true_and, Bool.false_and, Bool.and_true, Bool.and_false, cond_true, cond_false, beq_self_eq_true, Int.reduceBEq, decide_true, decide_false, ld2, ld3, ld5, ld23, ld25, ld47, fa47_0, conv_int u2 u23, conv_int u23 u2, conv_int u23 u5, conv_int u5 u23, bin_eql_bool u4, xor64u, xor64i, and64u, or64u, or8, and8, nil32, ptr32, sl25, nilc, ex0, ex1] <;> with_reducible rfl))
  with_reducible refine Tl.seq (f20c (k := k + 1) B (by simp; omega)) ?_
  rintro ⟨v', h2⟩ ⟨b', X, hb', g2⟩
  simp only at X g2
  refine ⟨_, rfl, v', rfl, X.slV, fun i hi hne => (g2.2 i (by rw [n1]; exact hi)).trans (g1 i hne)⟩
theorem flat_brows (l : List Int) : (l.map brow).flatten = l.map fun z => .int .u8 z := by
  induction l with
  | nil => rfl
  | cons a l ih => simp only [List.map_cons, List.flatten_cons, ih]; rfl
/-- A byte written. -/
theorem store_byte {h : AH} {v : Value} {b : Nat} {l : List Int} (S : SlX Try.prog h v 1 b (l.map brow)) {i : Nat} (hi : i < l.length) (z : Int) :
    ∃ h', pStore Try.prog 5 (.pointer (some ⟨b, i, none⟩)) (.int .u8 z) h = some h' ∧ SlX Try.prog h' v 1 b ((l.set i z).map brow) ∧ (∀ j, j ≠ b → h'.get j = h.get j) ∧ h'.n = h.n := by
  obtain ⟨form, ⟨⟨cs, e, hg, hin⟩, wide⟩, sz⟩ := S
  obtain ⟨h3, h4⟩ := hin (by intro q; rw [List.map_eq_nil_iff] at q; subst q; simp at hi)
  simp only [Nat.zero_add, List.length_map, Nat.mul_one, List.drop_zero] at h3 h4
  rw [flat_brows] at h4
  unfold pStore
  have e1 : (szT Try.prog 5 == some (Value.int IntKind.u8 z).cells.size) = true := by rw [sz5]; rfl
  have e2 : ((Value.int IntKind.u8 z).cells.toList.all oneCell) = true := rfl
  simp only [e1, e2, Bool.and_self, if_true]
  unfold AH.put
  rw [hg]
  simp only
  rw [if_pos (by simp [Value.cells]; omega)]
  refine ⟨_, rfl, ⟨by simpa using form, ⟨⟨_, e, AH.get_set_same h _ _ hg, fun _ => ⟨?_, ?_⟩⟩, ?_⟩, ?_⟩, fun j hj => AH.get_set_other h _ (fun q => hj q.symm), by simp⟩
  · simp [splice, Value.cells]; omega
  · have hs : splice cs i [Value.int .u8 z] = cs.set i (.int .u8 z) := by
      rw [List.set_eq_take_append_cons_drop]
      rw [if_pos (by omega)]
      simp [splice]
    simp only [Value.cells, List.toList_toArray]
    rw [hs, flat_brows]
    simp only [List.drop_zero, List.length_map, List.length_set, Nat.mul_one]
    rw [List.take_set, h4, List.map_set]
  · intro r hr
    obtain ⟨a, _, rfl⟩ := List.mem_map.1 hr
    rfl
  · unfold szOk at sz ⊢
    simp only at sz ⊢
    rw [AH.get_set_same h _ _ hg]
    rw [hg] at sz
    exact sz
theorem f5_loop {β : Type} {k : Nat} {Q : β → Prop} {v x0 x5 x7 x9 x11 x13 : Value} {bm br bb : Nat} {l0 : List Int} (h1 : br ≠ bm) (h2 : bb ≠ bm) {len : Nat} (hlen : len ≤ 2 ^ 30) {b0 : Nat} {h0 : AH}
    {ke0 : Value → Value → Value → Value → Value → Value → Value → Value → Value → AH → Option β} (hb0 : b0 ≤ bm)
    (hk : ∀ h' y14 y, Rdr h' br l0 bb → GrowFrom b0 h0 h' → Tl (ke0 x0 x5 x7 x9 x11 v x13 y14 y h') Q) (n : Nat) :
    ∀ {i j : Nat} {h : AH} {l : List Int}, i + n = len → n < j → l.length = len → SlX Try.prog h v 1 bm (l.map brow) → Rdr h br l0 bb → GrowFrom b0 h0 h →
      Tl (F5_lrlrrrrrrrrr (eInv env k) k j x0 x5 x7 x9 x11 v x13 (.int .i64 i) h ke0) Q := by
  induction n with
  | zero =>
    intro i j h l hi hj hll S R G
    obtain ⟨j, rfl⟩ : ∃ q, j = q + 1 := ⟨j - 1, by omega⟩
    have hv : ∀ h', pLen Try.prog #[25] v h' = some (.int .i64 l.length) := fun h' => Bytes.len (h := h) S.slV
    have e : decide ((i : Int) < (l.length : Int)) = false := by simp; omega
    simp only [F5_lrlrrrrrrrrr]
    repeat (with_reducible apply Tl.val; focus (simp only [bnd_some, bin_add, bin_sub, bin_mul, bin_lss, bin_leq, bin_gtr, bin_geq, bin_eql, bin_neq, un_not, un_neg, goInt, gd_tt, gd_ff, gd_tf, gd_ft, gd_sk, gd3_tt, gd3_ff, gd3_tf, gd3_ft, gd3_sk, Option.map_some, lt_some, pick_t, pick_f, Nat.zero_add, Bool.not_true, Bool.not_false, Bool.true_and, Bool.false_and, Bool.and_true, Bool.and_false, cond_true, cond_false, beq_self_eq_true, Int.reduceBEq, decide_true, decide_false, ld2, ld3, ld5, ld23, ld25, ld47, fa47_0, conv_int u2 u23, conv_int u23 u2, conv_int u23 u5, conv_int u5 u23, bin_eql_bool u4, xor64u, xor64i, and64u, or64u, or8, and8, nil32, ptr32, sl25, nilc, ex0, ex1, hv, e] <;> with_reducible rfl))
    with_reducible refine Tl.brF ?_
    exact hk _ _ _ R G
  | succ n ih =>
    intro i j h l hi hj hll S R G
    obtain ⟨j, rfl⟩ : ∃ q, j = q + 1 := ⟨j - 1, by omega⟩
    have hv : ∀ h', pLen Try.prog #[25] v h' = some (.int .i64 l.length) := fun h' => Bytes.len (h := h) S.slV
    have hlt : i < l.length := by omega
    have e : decide ((i : Int) < (l.length : Int)) = true := by simp; omega
    have w1 : IntKind.i64.wrap ((i : Int) + 1) = ((i + 1 : Nat) : Int) := by rw [wrap_i64']; split <;> omega
    obtain ⟨c, hc⟩ : ∃ c, l[i]? = some c := ⟨_, List.getElem?_eq_getElem hlt⟩
    have hx : pIndexAddr Try.prog 25 v (.int .i64 i) = some (.pointer (some ⟨bm, i, none⟩)) := by
      rw [S.form]
      have := indexAddr_slice (P := Try.prog) (k := .i64) (q := ⟨bm, 0, none⟩) (n := (l.map brow).length) (c := (l.map brow).length) u25 sz5 (i := (i : Int)) (by omega) (by simp; omega)
      rw [this]
      simp
    have hcell : h.cell bm i = some (.int .u8 c) := by
      have := S.lie.cell (i := i) (v := .int .u8 c) (by simp [hc, brow])
      simpa using this
    obtain ⟨h', st, S', g', n'⟩ := store_byte S hlt (IntKind.u8.wrap (c + 1))
    simp only [F5_lrlrrrrrrrrr]
    repeat (with_reducible apply Tl.val; focus (simp only [bnd_some, bin_add, bin_sub, bin_mul, bin_lss, bin_leq, bin_gtr, bin_geq, bin_eql, bin_neq, un_not, un_neg, goInt, gd_tt, gd_ff, gd_tf, gd_ft, gd_sk, gd3_tt, gd3_ff, gd3_tf, gd3_ft, gd3_sk, Option.map_some, lt_some, pick_t, pick_f, Nat.zero_add, Bool.not_true, Bool.not_false, Bool.true_and, Bool.false_and, Bool.and_true, Bool.and_false, cond_true, cond_false, beq_self_eq_true, Int.reduceBEq, decide_true, decide_false, ld2, ld3, ld5, ld23, ld25, ld47, fa47_0, conv_int u2 u23, conv_int u23 u2, conv_int u23 u5, conv_int u5 u23, bin_eql_bool u4, xor64u, xor64i, and64u, or64u, or8, and8, nil32, ptr32, sl25, nilc, ex0, ex1, hv, e] <;> with_reducible rfl))
    with_reducible refine Tl.brT ?_
    repeat (with_reducible apply Tl.val; focus (simp only [bnd_some, bin_add, bin_sub, bin_mul, bin_lss, bin_leq, bin_gtr, bin_geq, bin_eql, bin_neq, un_not, un_neg, goInt, gd_tt, gd_ff, gd_tf, gd_ft, gd_sk, gd3_tt, gd3_ff, gd3_tf, gd3_ft, gd3_sk, Option.map_some, lt_some, pick_t, pick_f, Nat.zero_add, Bool.not_true, Bool.not_false, Bool.true_and, Bool.false_and, Bool.and_true, Bool.and_false, cond_true, cond_false, beq_self_eq_true, Int.reduceBEq, decide_true, decide_false, ld2, ld3, ld5, ld23, ld25, ld47, fa47_0, conv_int u2 u23, conv_int u23 u2, conv_int u23 u5, conv_int u5 u23, bin_eql_bool u4, xor64u, xor64i, and64u, or64u, or8, and8, nil32, ptr32, sl25, nilc, ex0, ex1, hx, hcell, st, kSt, Option.map_some, w1] <;> with_reducible rfl))
    refine ih (by omega) (by omega) (by simpa using hll) S' ?_ (G.trans (show GrowFrom b0 h h' from ⟨by omega, fun j hj => g' j (by omega)⟩))
    obtain ⟨b, o, c', q1, q2, rfl, q4, q5⟩ := R.box
    refine ⟨b, o, c', (g' br h1).trans q1, q2, rfl, q4.grow (g' b h2), ?_⟩
    unfold szOk at q5 ⊢
    simp only at q5 ⊢
    rw [g' b h2]; exact q5
theorem f5 {k : Nat} {h : AH} {v : Value} {l : List Int} (B : Bytes h v l) (n : Int) : Tl (F5 (eInv env (k + 300)) (k + 300) v (.int .i64 n) h) fun r => r.1 = .bool true := by
  unfold F5
  have hv : ∀ h', pLen Try.prog #[25] v h' = some (.int .i64 l.length) := fun h' => B.len
  repeat (with_reducible apply Tl.val; focus (simp only [bnd_some, bin_add, bin_sub, bin_mul, bin_lss, bin_leq, bin_gtr, bin_geq, bin_eql, bin_neq, un_not, un_neg, goInt, gd_tt, gd_ff, gd_tf, gd_ft, gd_sk, gd3_tt, gd3_ff, gd3_tf, gd3_ft, gd3_sk, Option.map_some, lt_some, pick_t, pick_f, Nat.zero_add, Bool.not_true, Bool.not_false, Bool.true_and, Bool.false_and, Bool.and_true, Bool.and_false, cond_true, cond_false, beq_self_eq_true, Int.reduceBEq, decide_true, decide_false, ld2, ld3, ld5, ld23, ld25, ld47, fa47_0, conv_int u2 u23, conv_int u23 u2, conv_int u23 u5, conv_int u5 u23, bin_eql_bool u4, xor64u, xor64i, and64u, or64u, or8, and8, nil32, ptr32, sl25, nilc, ex0, ex1, lives_call] <;> with_reducible rfl))
  with_reducible refine Tl.brF ?_
  cases q : decide ((l.length : Int) > 200)
  case true =>
    repeat (with_reducible apply Tl.val; focus (simp only [bnd_some, bin_add, bin_sub, bin_mul, bin_lss, bin_leq, bin_gtr, bin_geq, bin_eql, bin_neq, un_not, un_neg, goInt, gd_tt, gd_ff, gd_tf, gd_ft, gd_sk, gd3_tt, gd3_ff, gd3_tf, gd3_ft, gd3_sk, Option.map_some, lt_some, pick_t, pick_f, Nat.zero_add, Bool.not_true, Bool.not_false, Bool.true_and, Bool.false_and, Bool.and_true, Bool.and_false, cond_true, cond_false, beq_self_eq_true, Int.reduceBEq, decide_true, decide_false, ld2, ld3, ld5, ld23, ld25, ld47, fa47_0, conv_int u2 u23, conv_int u23 u2, conv_int u23 u5, conv_int u5 u23, bin_eql_bool u4, xor64u, xor64i, and64u, or64u, or8, and8, nil32, ptr32, sl25, nilc, ex0, ex1, hv, q] <;> with_reducible rfl))
    with_reducible refine Tl.brT ?_
    exact ⟨_, rfl, rfl⟩
  have hl : l.length ≤ 200 := by simp at q; omega
  repeat (with_reducible apply Tl.val; focus (simp only [bnd_some, bin_add, bin_sub, bin_mul, bin_lss, bin_leq, bin_gtr, bin_geq, bin_eql, bin_neq, un_not, un_neg, goInt, gd_tt, gd_ff, gd_tf, gd_ft, gd_sk, gd3_tt, gd3_ff, gd3_tf, gd3_ft, gd3_sk, Option.map_some, lt_some, pick_t, pick_f, Nat.zero_add, Bool.not_true, Bool.not_false, Bool.true_and, Bool.false_and, Bool.and_true, Bool.and_false, cond_true, cond_false, beq_self_eq_true, Int.reduceBEq, decide_true, decide_false, ld2, ld3, ld5, ld23, ld25, ld47, fa47_0, conv_int u2 u23, conv_int u23 u2, conv_int u23 u5, conv_int u5 u23, bin_eql_bool u4, xor64u, xor64i, and64u, or64u, or8, and8, nil32, ptr32, sl25, nilc, ex0, ex1, hv, q] <;> with_reducible rfl))
  with_reducible refine Tl.brF ?_
  repeat (with_reducible apply Tl.val; focus (simp only [bnd_some, bin_add, bin_sub, bin_mul, bin_lss, bin_leq, bin_gtr, bin_geq, bin_eql, bin_neq, un_not, un_neg, goInt, gd_tt, gd_ff, gd_tf, gd_ft, gd_sk, gd3_tt, gd3_ff, gd3_tf, gd3_ft, gd3_sk, Option.map_some, lt_some, pick_t, pick_f, Nat.zero_add, Bool.not_true, Bool.not_false, Bool.true_and, Bool.false_and, Bool.and_true, Bool.and_false, cond_true, cond_false, beq_self_eq_true, Int.reduceBEq, decide_true, decide_false, ld2, ld3, ld5, ld23, ld25, ld47, fa47_0, conv_int u2 u23, conv_int u23 u2, conv_int u23 u5, conv_int u5 u23, bin_eql_bool u4, xor64u, xor64i, and64u, or64u, or8, and8, nil32, ptr32, sl25, nilc, ex0, ex1, f14n, f13n, f17n] <;> with_reducible rfl))
  with_reducible refine Tl.seq (f18c (k := k + 299) B (by omega)) ?_
  rintro ⟨m, h1⟩ ⟨bm, X, hbm, g1⟩
  simp only at X g1
  have form := X.form
  subst form
  have C : Bytes h1 (.slice (some ⟨bm, 0, none⟩) (l.map brow).length (l.map brow).length) l := X.slV
  with_reducible refine Tl.seq (f12c (k := k + 298) C (by omega)) ?_
  rintro ⟨p, h2⟩ ⟨br, bb, e2, R, hbr, hbb, hne, g2⟩
  simp only at e2 R g2 hbr hbb
  subst e2
  have hlt := X.lie.lt
  refine f5_loop (l0 := l) (len := l.length) (bm := bm) (br := br) (bb := bb) (b0 := h.n) (h0 := h2) (by omega) (by omega) (by omega) hbm ?_ l.length (i := 0) (by omega) (by omega) rfl (X.keep (g2.2 _ hlt)) R (GrowFrom.refl _ _)
  intro h3 y14 y R3 G3
  have B3 : Bytes h3 v l := by
    have : Grow h h3 := ⟨Nat.le_trans (g1.trans g2).1 G3.1, fun i hi => (G3.2 i hi).trans ((g1.trans g2).2 i hi)⟩
    exact B.grow this
  repeat (with_reducible apply Tl.val; focus (simp only [bnd_some, bin_add, bin_sub, bin_mul, bin_lss, bin_leq, bin_gtr, bin_geq, bin_eql, bin_neq, un_not, un_neg, goInt, gd_tt, gd_ff, gd_tf, gd_ft, gd_sk, gd3_tt, gd3_ff, gd3_tf, gd3_ft, gd3_sk, Option.map_some, lt_some, pick_t, pick_f, Nat.zero_add, Bool.not_true, Bool.not_false, Bool.true_and, Bool.false_and, Bool.and_true, Bool.and_false, cond_true, cond_false, beq_self_eq_true, Int.reduceBEq, decide_true, decide_false, ld2, ld3, ld5, ld23, ld25, ld47, fa47_0, conv_int u2 u23, conv_int u23 u2, conv_int u23 u5, conv_int u5 u23, bin_eql_bool u4, xor64u, xor64i, and64u, or64u, or8, and8, nil32, ptr32, sl25, nilc, ex0, ex1, hv] <;> with_reducible rfl))
  with_reducible refine Tl.seq (f17c (k := k + 297) R3 hne (Nat.le_refl _) (by omega)) ?_
  rintro ⟨x, h4⟩ ⟨v', e4, B4, g4⟩
  simp only at e4 B4 g4
  subst e4
  rw [List.take_length] at B4
  have B5 : Bytes h4 v l := by
    rcases B3 with q | ⟨b, o, c, own, q1, q2, L⟩
    · exact .inl q
    · refine .inr ⟨b, o, c, own, q1, q2, L.grow (g4 b L.lt ?_)⟩
      rcases B with r | ⟨b', o', c', own', r1, r2, L'⟩
      · rw [r.1] at q1; cases q1
      · rw [r1] at q1
        cases q1
        have := L'.lt
        have := g1.1
        omega
  have same := f16c (k := k + 299) B4 B5 (by omega) (by omega)
  repeat (with_reducible apply Tl.val; focus (simp only [bnd_some, bin_add, bin_sub, bin_mul, bin_lss, bin_leq, bin_gtr, bin_geq, bin_eql, bin_neq, un_not, un_neg, goInt, gd_tt, gd_ff, gd_tf, gd_ft, gd_sk, gd3_tt, gd3_ff, gd3_tf, gd3_ft, gd3_sk, Option.map_some, lt_some, pick_t, pick_f, Nat.zero_add, Bool.not_true, Bool.not_false, Bool.true_and, Bool.false_and, Bool.and_true, Bool.and_false, cond_true, cond_false, beq_self_eq_true, Int.reduceBEq, decide_true, decide_false, ld2, ld3, ld5, ld23, ld25, ld47, fa47_0, conv_int u2 u23, conv_int u23 u2, conv_int u23 u5, conv_int u5 u23, bin_eql_bool u4, xor64u, xor64i, and64u, or64u, or8, and8, nil32, ptr32, sl25, nilc, ex0, ex1, f15n, same] <;> with_reducible rfl))
  exact ⟨_, rfl, rfl⟩
end Go.Proofs.Ytchfdnboojamnaa.Sh
