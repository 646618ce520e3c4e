/- 'OctetBack' comes to true. -/
import Derived.Test.YtchfdnboojamnaaSzO8
set_option linter.unusedVariables false
set_option linter.unusedSimpArgs false
set_option maxRecDepth 100000
namespace Go.Proofs.Ytchfdnboojamnaa.Sh
open Go Go.RowKit Go.Proofs.Ev Go.ChangeShapes Go.WideShapes

theorem grow_size {h h' : AH} (g : Grow h h') : h.n ≤ h'.n := g.1
theorem zig_zag {v : Int} (h : 0 ≤ v) : zigZ (zagZ v) = v := by
  unfold zigZ zagZ
  split <;> split <;> omega
theorem zagZ_range {v : Int} (h0 : 0 ≤ v) (h1 : v < 18446744073709551616) : -9223372036854775808 ≤ zagZ v ∧ zagZ v < 9223372036854775808 := by
  unfold zagZ
  split <;> omega
def wrow (z : Int) : List Value := [.int .u64 z]
def Words (h : AH) (v : Value) (l : List Int) : Prop := SlV Try.prog h v 1 (l.map wrow)
theorem Words.grow {h h' : AH} {v : Value} {l : List Int} (S : Words h v l) (g : Grow h h') : Words h' v l := SlV.grow S g
theorem Words.len {h h' : AH} {v : Value} {l : List Int} (S : Words h v l) : pLen Try.prog #[30] v h' = some (.int .i64 l.length) := by
  have := SlV.len S u30 (h' := h')
  simpa using this
theorem Words.at_ {h : AH} {v : Value} {l : List Int} (S : Words h v l) {i : Nat} {c : Int} (hi : l[i]? = some c) :
    ∃ b o, pIndexAddr Try.prog 30 v (.int .i64 i) = some (.pointer (some ⟨b, o, none⟩)) ∧ h.cell b o = some (.int .u64 c) := by
  obtain ⟨b, o, h1, h2⟩ := SlV.at_ S (t := 30) (k := .i64) (i := i) (r := wrow c) (by simp [hi]) u30 sz23
  exact ⟨b, o, h1, Ev.cell_of_row (j := 0) h2 (by omega)⟩
theorem Words.at2 {h h' : AH} {v : Value} {l : List Int} (S : Words h v l) (S' : Words h' v l) {i : Nat} {c : Int} (hi : l[i]? = some c) :
    ∃ b o, pIndexAddr Try.prog 30 v (.int .i64 i) = some (.pointer (some ⟨b, o, none⟩)) ∧ h.cell b o = some (.int .u64 c) ∧ h'.cell b o = some (.int .u64 c) := by
  obtain ⟨b, o, h1, h2⟩ := S.at_ hi
  obtain ⟨b', o', h3, h4⟩ := S'.at_ hi
  rw [h1] at h3
  simp only [Option.some.injEq, Value.pointer.injEq, Addr.mk.injEq, and_true] at h3
  obtain ⟨rfl, rfl⟩ := h3
  exact ⟨b, o, h1, h2, h4⟩
def flatB (l : List Nat) : List Nat := l.flatMap fun x => pvarN x ++ le x 0 8
theorem flatB_256 (l : List Nat) : ∀ y ∈ flatB l, y < 256 := by
  intro y hy
  unfold flatB at hy
  obtain ⟨x, _, hx⟩ := List.mem_flatMap.1 hy
  rcases List.mem_append.1 hx with h | h
  · exact pvarN_256 x y h
  · exact le_lt x 8 0 y h
theorem pvarN_le10 {n : Nat} (h : n < 18446744073709551616) : (pvarN n).length ≤ 10 := by
  have := pvar_le10 h
  rw [← ints_pvarN] at this
  simpa [ints] using this
theorem flatB_len : ∀ (l : List Nat), (∀ x ∈ l, x < 18446744073709551616) → (flatB l).length ≤ 18 * l.length := by
  intro l
  induction l with
  | nil => intro _; simp [flatB]
  | cons x l ih =>
    intro h
    have h1 := pvarN_le10 (h x (by simp))
    have h2 := ih fun y hy => h y (by simp [hy])
    have e : flatB (x :: l) = pvarN x ++ le x 0 8 ++ flatB l := by simp [flatB]
    rw [e, List.length_append, List.length_append, le_len, List.length_cons]
    omega
theorem flatB_cons (x : Nat) (l : List Nat) : flatB (x :: l) = pvarN x ++ (le x 0 8 ++ flatB l) := by simp [flatB]
theorem sameU {z : Int} : sameV (.int .u64 z) (.int .u64 z) = true := sameV_int
/-- What is written. -/
theorem f4_loop1 {β : Type} {k : Nat} {Q : β → Prop} {h0 : AH} {v0 v1 : Value} {l : List Nat} (A : Words h0 v0 (ints l)) (hl : l.length ≤ 60) (hx : ∀ x ∈ l, x < 18446744073709551616) {ke0 : Value → Value → Value → Value → Value → AH → Option β} (n : Nat) :
    ∀ {i j : Nat} {h : AH} {v5 : Value}, i + n = l.length → n < j → OB h0.n h v5 (ints (flatB (l.take i))) → Grow h0 h →
      (∀ h' v5' y6 y, OB h0.n h' v5' (ints (flatB l)) → Grow h0 h' → Tl (ke0 v0 v1 v5' y6 y h') Q) →
      Tl (F4_lrlrrrr (eInv env (k + 100)) (k + 100) j v0 v1 v5 (.int .i64 i) h ke0) Q := by
  have hv : ∀ h', pLen Try.prog #[30] v0 h' = some (.int .i64 l.length) := fun h' => by have := A.len (h' := h'); simpa [ints] using this
  induction n with
  | zero =>
    intro i j h v5 hi hj O G hk
    obtain ⟨j, rfl⟩ : ∃ q, j = q + 1 := ⟨j - 1, by omega⟩
    simp only [F4_lrlrrrr]
    have e : decide ((i : Int) < (l.length : Int)) = false := by simp; omega
    repeat (with_reducible apply Tl.val; focus (simp only [bnd_some, bin_add, bin_sub, bin_mul, bin_lss, bin_leq, bin_gtr, bin_geq, bin_eql, bin_neq, un_not, un_neg, goInt, gd_tt, gd_ff, gd_tf, gd_ft, gd_sk, gd3_tt, gd3_ff, gd3_tf, gd3_ft, gd3_sk, Option.map_some, lt_some, pick_t, pick_f, Nat.zero_add, Bool.not_true, Bool.not_false, Bool.true_and, Bool.false_and, Bool.and_true, Bool.and_false, cond_true, cond_false, beq_self_eq_true, Int.reduceBEq, decide_true, decide_false, ld2, ld3, ld5, ld23, ld25, ld47, fa47_0, conv_int u2 u23, conv_int u23 u2, conv_int u23 u5, conv_int u5 u23, bin_eql_bool u4, xor64u, xor64i, and64u, or64u, or8, and8, nil32, ptr32, sl25, nilc, ex0, ex1, hv, e] <;> with_reducible rfl))
    with_reducible refine Tl.brF ?_
    rw [List.take_of_length_le (by omega)] at O
    exact hk _ _ _ _ O G
  | succ n ih =>
    intro i j h v5 hi hj O G hk
    obtain ⟨j, rfl⟩ : ∃ q, j = q + 1 := ⟨j - 1, by omega⟩
    have hlt : i < l.length := by omega
    obtain ⟨c, hc⟩ : ∃ c, l[i]? = some c := ⟨_, List.getElem?_eq_getElem hlt⟩
    have hcx := hx c (List.mem_of_getElem? hc)
    have hci : (ints l)[i]? = some (c : Int) := by simp [ints, hc]
    obtain ⟨b0, o0, hx0, h20⟩ := (A.grow G).at_ hci
    have w1 : IntKind.i64.wrap ((i : Int) + 1) = ((i + 1 : Nat) : Int) := by rw [wrap_i64']; split <;> omega
    have e : decide ((i : Int) < (l.length : Int)) = true := by simp; omega
    have fl := flatB_len (l.take i) (fun x hx' => hx x (List.mem_of_mem_take hx'))
    have flt : (l.take i).length ≤ 60 := by simp; omega
    have p10 := pvar_le10 hcx
    have il : (ints (flatB (l.take i))).length = (flatB (l.take i)).length := by simp [ints]
    simp only [F4_lrlrrrr]
    repeat (with_reducible apply Tl.val; focus (simp only [bnd_some, bin_add, bin_sub, bin_mul, bin_lss, bin_leq, bin_gtr, bin_geq, bin_eql, bin_neq, un_not, un_neg, goInt, gd_tt, gd_ff, gd_tf, gd_ft, gd_sk, gd3_tt, gd3_ff, gd3_tf, gd3_ft, gd3_sk, Option.map_some, lt_some, pick_t, pick_f, Nat.zero_add, Bool.not_true, Bool.not_false, Bool.true_and, Bool.false_and, Bool.and_true, Bool.and_false, cond_true, cond_false, beq_self_eq_true, Int.reduceBEq, decide_true, decide_false, ld2, ld3, ld5, ld23, ld25, ld47, fa47_0, conv_int u2 u23, conv_int u23 u2, conv_int u23 u5, conv_int u5 u23, bin_eql_bool u4, xor64u, xor64i, and64u, or64u, or8, and8, nil32, ptr32, sl25, nilc, ex0, ex1, hv, e] <;> with_reducible rfl))
    with_reducible refine Tl.brT ?_
    repeat (with_reducible apply Tl.val; focus (simp only [bnd_some, bin_add, bin_sub, bin_mul, bin_lss, bin_leq, bin_gtr, bin_geq, bin_eql, bin_neq, un_not, un_neg, goInt, gd_tt, gd_ff, gd_tf, gd_ft, gd_sk, gd3_tt, gd3_ff, gd3_tf, gd3_ft, gd3_sk, Option.map_some, lt_some, pick_t, pick_f, Nat.zero_add, Bool.not_true, Bool.not_false, Bool.true_and, Bool.false_and, Bool.and_true, Bool.and_false, cond_true, cond_false, beq_self_eq_true, Int.reduceBEq, decide_true, decide_false, ld2, ld3, ld5, ld23, ld25, ld47, fa47_0, conv_int u2 u23, conv_int u23 u2, conv_int u23 u5, conv_int u5 u23, bin_eql_bool u4, xor64u, xor64i, and64u, or64u, or8, and8, nil32, ptr32, sl25, nilc, ex0, ex1, hx0, h20] <;> with_reducible rfl))
    with_reducible refine Tl.seq (f9c (k := k + 99) c O (grow_size G) (by omega) (by omega)) ?_
    rintro ⟨p, h1⟩ ⟨O1, g1⟩
    simp only at O1 g1
    have G1 : Grow h0 h1 := GrowFrom.trans G g1
    obtain ⟨b, o, hxx, ha, hb⟩ := (A.grow G).at2 (A.grow G1) hci
    repeat (with_reducible apply Tl.val; focus (simp only [bnd_some, bin_add, bin_sub, bin_mul, bin_lss, bin_leq, bin_gtr, bin_geq, bin_eql, bin_neq, un_not, un_neg, goInt, gd_tt, gd_ff, gd_tf, gd_ft, gd_sk, gd3_tt, gd3_ff, gd3_tf, gd3_ft, gd3_sk, Option.map_some, lt_some, pick_t, pick_f, Nat.zero_add, Bool.not_true, Bool.not_false, Bool.true_and, Bool.false_and, Bool.and_true, Bool.and_false, cond_true, cond_false, beq_self_eq_true, Int.reduceBEq, decide_true, decide_false, ld2, ld3, ld5, ld23, ld25, ld47, fa47_0, conv_int u2 u23, conv_int u23 u2, conv_int u23 u5, conv_int u5 u23, bin_eql_bool u4, xor64u, xor64i, and64u, or64u, or8, and8, nil32, ptr32, sl25, nilc, ex0, ex1, hxx, hb] <;> with_reducible rfl))
    with_reducible refine Tl.seq (f11c (k := k + 99) c O1 (grow_size G1) (by omega) (by simp [il]; omega)) ?_
    rintro ⟨p2, h2⟩ ⟨O2, g2⟩
    simp only at O2 g2
    with_reducible refine Tl.chk ?_ ?_
    · simp only [ld23, ha, hb, sameO_some, sameU, Bool.and_self, Bool.not_true, Bool.or_true, Bool.true_and, Bool.false_or]
    repeat (with_reducible apply Tl.val; focus (simp only [bnd_some, bin_add, bin_sub, bin_mul, bin_lss, bin_leq, bin_gtr, bin_geq, bin_eql, bin_neq, un_not, un_neg, goInt, gd_tt, gd_ff, gd_tf, gd_ft, gd_sk, gd3_tt, gd3_ff, gd3_tf, gd3_ft, gd3_sk, Option.map_some, lt_some, pick_t, pick_f, Nat.zero_add, Bool.not_true, Bool.not_false, Bool.true_and, Bool.false_and, Bool.and_true, Bool.and_false, cond_true, cond_false, beq_self_eq_true, Int.reduceBEq, decide_true, decide_false, ld2, ld3, ld5, ld23, ld25, ld47, fa47_0, conv_int u2 u23, conv_int u23 u2, conv_int u23 u5, conv_int u5 u23, bin_eql_bool u4, xor64u, xor64i, and64u, or64u, or8, and8, nil32, ptr32, sl25, nilc, ex0, ex1, w1] <;> with_reducible rfl))
    refine ih (by omega) (by omega) ?_ (GrowFrom.trans G1 g2) hk
    have ht : l.take (i + 1) = l.take i ++ [c] := by
      rw [List.take_add_one, hc]; rfl
    have hf : ints (flatB (l.take (i + 1))) = ints (flatB (l.take i)) ++ pvar c ++ ints (le c 0 8) := by
      rw [ht, ← ints_pvarN]
      simp [flatB, ints]
    rw [hf]
    exact O2
/-- A reader of these bytes; nil if there are none. -/
def RS (n0 : Nat) (h : AH) (br : Nat) (l : List Nat) : Prop := (∃ bb, br ≠ bb ∧ n0 ≤ br ∧ n0 ≤ bb ∧ Rdr h br (ints l) bb) ∨ (l = [] ∧ n0 ≤ br ∧ Rdr0 h br)
theorem Rdr.keep {h h' : AH} {br bb : Nat} {l : List Int} (R : Rdr h br l bb) (h1 : h'.get br = h.get br) (h2 : h'.get bb = h.get bb) : Rdr h' br l bb := by
  obtain ⟨b, o, c, q1, q2, rfl, q4, q5⟩ := R.box
  refine ⟨b, o, c, h1.trans q1, q2, rfl, q4.grow h2, ?_⟩
  unfold szOk at q5 ⊢
  simp only at q5 ⊢
  rw [h2]; exact q5
theorem Rdr.lt {h : AH} {br bb : Nat} {l : List Int} (R : Rdr h br l bb) : br < h.n ∧ bb < h.n := by
  obtain ⟨b, o, c, q1, q2, rfl, q4, q5⟩ := R.box
  exact ⟨AH.get_lt q1, q4.lt⟩
theorem RS.keep {n0 : Nat} {h h' : AH} {br : Nat} {l : List Nat} (R : RS n0 h br l) (g : Grow h h') : RS n0 h' br l := by
  rcases R with ⟨bb, h1, h2, h3, R⟩ | ⟨h1, h2, R⟩
  · exact .inl ⟨bb, h1, h2, h3, R.keep (g.2 _ R.lt.1) (g.2 _ R.lt.2)⟩
  · exact .inr ⟨h1, h2, (g.2 _ (AH.get_lt R)).trans R⟩
/-- What is read. -/
theorem f4_loop2 {β : Type} {k : Nat} {Q : β → Prop} {h0 : AH} {v0 v1 : Value} {l : List Nat} {br : Nat} (A : Words h0 v0 (ints l)) (hl : l.length ≤ 60) (hx : ∀ x ∈ l, x < 18446744073709551616) {ke2 : Value → Value → Value → Value → Value → AH → Option β} {kr : Value → AH → Option β} (n : Nat) :
    ∀ {i j : Nat} {h : AH}, i + n = l.length → n < j → RS h0.n h br (flatB (l.drop i)) → Grow h0 h →
      (∀ h' y8 y, RS h0.n h' br [] → Grow h0 h' → Tl (ke2 v0 v1 (.pointer (some ⟨br, 0, none⟩)) y8 y h') Q) →
      Tl (F4_lrlrrrrrr (eInv env (k + 2000)) (k + 2000) j v0 v1 (.pointer (some ⟨br, 0, none⟩)) (.int .i64 i) h ke2 kr) Q := by
  have hv : ∀ h', pLen Try.prog #[30] v0 h' = some (.int .i64 l.length) := fun h' => by have := A.len (h' := h'); simpa [ints] using this
  induction n with
  | zero =>
    intro i j h hi hj R G hk
    obtain ⟨j, rfl⟩ : ∃ q, j = q + 1 := ⟨j - 1, by omega⟩
    simp only [F4_lrlrrrrrr]
    have e : decide ((i : Int) < (l.length : Int)) = false := by simp; omega
    repeat (with_reducible apply Tl.val; focus (simp only [bnd_some, bin_add, bin_sub, bin_mul, bin_lss, bin_leq, bin_gtr, bin_geq, bin_eql, bin_neq, un_not, un_neg, goInt, gd_tt, gd_ff, gd_tf, gd_ft, gd_sk, gd3_tt, gd3_ff, gd3_tf, gd3_ft, gd3_sk, Option.map_some, lt_some, pick_t, pick_f, Nat.zero_add, Bool.not_true, Bool.not_false, Bool.true_and, Bool.false_and, Bool.and_true, Bool.and_false, cond_true, cond_false, beq_self_eq_true, Int.reduceBEq, decide_true, decide_false, ld2, ld3, ld5, ld23, ld25, ld47, fa47_0, conv_int u2 u23, conv_int u23 u2, conv_int u23 u5, conv_int u5 u23, bin_eql_bool u4, xor64u, xor64i, and64u, or64u, or8, and8, nil32, ptr32, sl25, nilc, ex0, ex1, hv, e] <;> with_reducible rfl))
    with_reducible refine Tl.brF ?_
    rw [List.drop_eq_nil_of_le (by omega)] at R
    exact hk _ _ _ R G
  | succ n ih =>
    intro i j h hi hj R G hk
    obtain ⟨j, rfl⟩ : ∃ q, j = q + 1 := ⟨j - 1, by omega⟩
    have hlt : i < l.length := by omega
    obtain ⟨c, hc⟩ : ∃ c, l[i]? = some c := ⟨_, List.getElem?_eq_getElem hlt⟩
    have hcx := hx c (List.mem_of_getElem? hc)
    have hci : (ints l)[i]? = some (c : Int) := by simp [ints, hc]
    have w1 : IntKind.i64.wrap ((i : Int) + 1) = ((i + 1 : Nat) : Int) := by rw [wrap_i64']; split <;> omega
    have e : decide ((i : Int) < (l.length : Int)) = true := by simp; omega
    have hd : l.drop i = c :: l.drop (i + 1) := by
      rw [List.drop_eq_getElem_cons hlt]
      rw [List.getElem?_eq_getElem hlt] at hc
      cases hc; rfl
    have fl := flatB_len (l.drop i) (fun x hx' => hx x (List.mem_of_mem_drop hx'))
    have flt : (l.drop i).length ≤ 60 := by simp; omega
    have f256 := flatB_256 (l.drop i)
    rw [hd, flatB_cons] at R
    rw [hd, flatB_cons] at fl f256
    rcases R with ⟨bb, hne, hbr, hbb, R⟩ | ⟨q, _, _⟩
    case inr =>
      exfalso
      have := congrArg List.length q
      simp [le_len] at this
    have hdec := dec_pvar (le c 0 8 ++ flatB (l.drop (i + 1))) c (i := 0) (acc := 0) (.inl rfl) (by simpa using hcx)
    simp only [Nat.mul_zero, Nat.pow_zero, Nat.mul_one, Nat.zero_add] at hdec
    simp only [F4_lrlrrrrrr]
    rw [hd] at flt
    repeat (with_reducible apply Tl.val; focus (simp only [bnd_some, bin_add, bin_sub, bin_mul, bin_lss, bin_leq, bin_gtr, bin_geq, bin_eql, bin_neq, un_not, un_neg, goInt, gd_tt, gd_ff, gd_tf, gd_ft, gd_sk, gd3_tt, gd3_ff, gd3_tf, gd3_ft, gd3_sk, Option.map_some, lt_some, pick_t, pick_f, Nat.zero_add, Bool.not_true, Bool.not_false, Bool.true_and, Bool.false_and, Bool.and_true, Bool.and_false, cond_true, cond_false, beq_self_eq_true, Int.reduceBEq, decide_true, decide_false, ld2, ld3, ld5, ld23, ld25, ld47, fa47_0, conv_int u2 u23, conv_int u23 u2, conv_int u23 u5, conv_int u5 u23, bin_eql_bool u4, xor64u, xor64i, and64u, or64u, or8, and8, nil32, ptr32, sl25, nilc, ex0, ex1, hv, e] <;> with_reducible rfl))
    with_reducible refine Tl.brT ?_
    with_reducible refine Tl.seq (f13 (k := k + 1994) R hne (by omega) f256 (by omega)) ?_
    rintro ⟨r1, h1⟩ (⟨v, rest, d1, e1, R1, n1, g1⟩ | ⟨d1, _⟩)
    case inr => rw [hdec] at d1; cases d1
    rw [hdec] at d1
    simp only [Option.some.injEq, Prod.mk.injEq] at d1
    obtain ⟨rfl, rfl⟩ := d1
    simp only at e1 R1 n1 g1
    subst e1
    repeat (with_reducible apply Tl.val; focus (simp only [bnd_some, bin_add, bin_sub, bin_mul, bin_lss, bin_leq, bin_gtr, bin_geq, bin_eql, bin_neq, un_not, un_neg, goInt, gd_tt, gd_ff, gd_tf, gd_ft, gd_sk, gd3_tt, gd3_ff, gd3_tf, gd3_ft, gd3_sk, Option.map_some, lt_some, pick_t, pick_f, Nat.zero_add, Bool.not_true, Bool.not_false, Bool.true_and, Bool.false_and, Bool.and_true, Bool.and_false, cond_true, cond_false, beq_self_eq_true, Int.reduceBEq, decide_true, decide_false, ld2, ld3, ld5, ld23, ld25, ld47, fa47_0, conv_int u2 u23, conv_int u23 u2, conv_int u23 u5, conv_int u5 u23, bin_eql_bool u4, xor64u, xor64i, and64u, or64u, or8, and8, nil32, ptr32, sl25, nilc, ex0, ex1] <;> with_reducible rfl))
    have len8 : 8 ≤ (le c 0 8 ++ flatB (l.drop (i + 1))).length := by simp [le_len]
    with_reducible refine Tl.seq (f14 (k := k + 1977) R1 hne len8 (fun x hx' => f256 x (by simp only [List.mem_append] at hx' ⊢; exact .inr hx'))) ?_
    rintro ⟨r2, h2⟩ ⟨e2, R2, n2, g2⟩
    simp only at e2 R2 n2 g2
    subst e2
    have t8 : (le c 0 8 ++ flatB (l.drop (i + 1))).take 8 = le c 0 8 := by
      rw [List.take_append_of_le_length (by rw [le_len]; omega), List.take_of_length_le (by rw [le_len]; omega)]
    have d8 : (le c 0 8 ++ flatB (l.drop (i + 1))).drop 8 = flatB (l.drop (i + 1)) := by
      have := List.drop_left' (l₁ := le c 0 8) (l₂ := flatB (l.drop (i + 1))) (le_len c 8 0)
      exact this
    have o8 : ofB (le c 0 8) = c := by
      rw [ofB_le]
      have h256 : (256 : Nat) ^ 8 = 18446744073709551616 := by decide
      simp [h256, Nat.mod_eq_of_lt hcx]
    rw [d8] at R2
    rw [t8, o8]
    have G2 : Grow h0 h2 := ⟨by have := G.1; omega, fun q hq => by
      have hq1 := G.1
      rw [g2 q (by omega) (by omega), g1 q (by omega)]
      exact G.2 q hq⟩
    obtain ⟨b, o, hxx, hcell⟩ := (A.grow G2).at_ hci
    have ne : ((c : Int) != (c : Int)) = false := by simp
    have ne0 : ((0 : Int) != 0) = false := by decide
    obtain ⟨z1, z2⟩ := zagZ_range (v := (c : Int)) (by omega) (by omega)
    have zg := f10c (k := k + 1999) (v := (c : Int)) (by omega) (by omega)
    have zz := f8c (k := k + 1999) z1 z2
    rw [zig_zag (by omega)] at zz
    repeat (with_reducible apply Tl.val; focus (simp only [bnd_some, bin_add, bin_sub, bin_mul, bin_lss, bin_leq, bin_gtr, bin_geq, bin_eql, bin_neq, un_not, un_neg, goInt, gd_tt, gd_ff, gd_tf, gd_ft, gd_sk, gd3_tt, gd3_ff, gd3_tf, gd3_ft, gd3_sk, Option.map_some, lt_some, pick_t, pick_f, Nat.zero_add, Bool.not_true, Bool.not_false, Bool.true_and, Bool.false_and, Bool.and_true, Bool.and_false, cond_true, cond_false, beq_self_eq_true, Int.reduceBEq, decide_true, decide_false, ld2, ld3, ld5, ld23, ld25, ld47, fa47_0, conv_int u2 u23, conv_int u23 u2, conv_int u23 u5, conv_int u5 u23, bin_eql_bool u4, xor64u, xor64i, and64u, or64u, or8, and8, nil32, ptr32, sl25, nilc, ex0, ex1, ne0, hxx, hcell, ne, zg, zz] <;> with_reducible rfl))
    with_reducible refine Tl.brF ?_
    repeat (with_reducible apply Tl.val; focus (simp only [bnd_some, bin_add, bin_sub, bin_mul, bin_lss, bin_leq, bin_gtr, bin_geq, bin_eql, bin_neq, un_not, un_neg, goInt, gd_tt, gd_ff, gd_tf, gd_ft, gd_sk, gd3_tt, gd3_ff, gd3_tf, gd3_ft, gd3_sk, Option.map_some, lt_some, pick_t, pick_f, Nat.zero_add, Bool.not_true, Bool.not_false, Bool.true_and, Bool.false_and, Bool.and_true, Bool.and_false, cond_true, cond_false, beq_self_eq_true, Int.reduceBEq, decide_true, decide_false, ld2, ld3, ld5, ld23, ld25, ld47, fa47_0, conv_int u2 u23, conv_int u23 u2, conv_int u23 u5, conv_int u5 u23, bin_eql_bool u4, xor64u, xor64i, and64u, or64u, or8, and8, nil32, ptr32, sl25, nilc, ex0, ex1, w1] <;> with_reducible rfl))
    exact ih (by omega) (by omega) (.inl ⟨bb, hne, hbr, hbb, R2⟩) G2 hk
theorem slice_h2 {h : AH} {b o len c n : Nat} (hn : n ≤ len) (hc : len ≤ c) : pSlice Try.prog 25 (.slice (some ⟨b, o, none⟩) len c) none (some (.int .i64 n)) none h = some (.slice (some ⟨b, o, none⟩) n c) := by
  unfold pSlice
  simp only [el25, Option.bind_some, sz5, intOr]
  rw [if_pos ⟨by omega, by omega, by omega, by omega, by simp, by simp⟩]
  simp
theorem f4 {k : Nat} {h : AH} {v0 v1 : Value} {l bs : List Nat} (A : Words h v0 (ints l)) (B : Bytes h v1 (ints bs)) (hx : ∀ x ∈ l, x < 18446744073709551616) (hb : ∀ x ∈ bs, x < 256) :
    Tl (F4 (eInv env (k + 2000)) (k + 2000) v0 v1 h) fun r => r.1 = .bool true := by
  unfold F4
  have hv : ∀ h', pLen Try.prog #[30] v0 h' = some (.int .i64 l.length) := fun h' => by have := A.len (h' := h'); simpa [ints] using this
  have hw : ∀ h', pLen Try.prog #[25] v1 h' = some (.int .i64 bs.length) := fun h' => by have := B.len (h' := h'); simpa [ints] using this
  repeat (with_reducible apply Tl.val; focus (simp only [bnd_some, bin_add, bin_sub, bin_mul, bin_lss, bin_leq, bin_gtr, bin_geq, bin_eql, bin_neq, un_not, un_neg, goInt, gd_tt, gd_ff, gd_tf, gd_ft, gd_sk, gd3_tt, gd3_ff, gd3_tf, gd3_ft, gd3_sk, Option.map_some, lt_some, pick_t, pick_f, Nat.zero_add, Bool.not_true, Bool.not_false, Bool.true_and, Bool.false_and, Bool.and_true, Bool.and_false, cond_true, cond_false, beq_self_eq_true, Int.reduceBEq, decide_true, decide_false, ld2, ld3, ld5, ld23, ld25, ld47, fa47_0, conv_int u2 u23, conv_int u23 u2, conv_int u23 u5, conv_int u5 u23, bin_eql_bool u4, xor64u, xor64i, and64u, or64u, or8, and8, nil32, ptr32, sl25, nilc, ex0, ex1, lives_call] <;> with_reducible rfl))
  with_reducible refine Tl.brF ?_
  cases q1 : decide ((l.length : Int) > 60)
  case true =>
    repeat (with_reducible apply Tl.val; focus (simp only [bnd_some, bin_add, bin_sub, bin_mul, bin_lss, bin_leq, bin_gtr, bin_geq, bin_eql, bin_neq, un_not, un_neg, goInt, gd_tt, gd_ff, gd_tf, gd_ft, gd_sk, gd3_tt, gd3_ff, gd3_tf, gd3_ft, gd3_sk, Option.map_some, lt_some, pick_t, pick_f, Nat.zero_add, Bool.not_true, Bool.not_false, Bool.true_and, Bool.false_and, Bool.and_true, Bool.and_false, cond_true, cond_false, beq_self_eq_true, Int.reduceBEq, decide_true, decide_false, ld2, ld3, ld5, ld23, ld25, ld47, fa47_0, conv_int u2 u23, conv_int u23 u2, conv_int u23 u5, conv_int u5 u23, bin_eql_bool u4, xor64u, xor64i, and64u, or64u, or8, and8, nil32, ptr32, sl25, nilc, ex0, ex1, hv, q1] <;> with_reducible rfl))
    with_reducible refine Tl.brT ?_
    exact ⟨_, rfl, rfl⟩
  cases q2 : decide ((bs.length : Int) > 200)
  case true =>
    repeat (with_reducible apply Tl.val; focus (simp only [bnd_some, bin_add, bin_sub, bin_mul, bin_lss, bin_leq, bin_gtr, bin_geq, bin_eql, bin_neq, un_not, un_neg, goInt, gd_tt, gd_ff, gd_tf, gd_ft, gd_sk, gd3_tt, gd3_ff, gd3_tf, gd3_ft, gd3_sk, Option.map_some, lt_some, pick_t, pick_f, Nat.zero_add, Bool.not_true, Bool.not_false, Bool.true_and, Bool.false_and, Bool.and_true, Bool.and_false, cond_true, cond_false, beq_self_eq_true, Int.reduceBEq, decide_true, decide_false, ld2, ld3, ld5, ld23, ld25, ld47, fa47_0, conv_int u2 u23, conv_int u23 u2, conv_int u23 u5, conv_int u5 u23, bin_eql_bool u4, xor64u, xor64i, and64u, or64u, or8, and8, nil32, ptr32, sl25, nilc, ex0, ex1, hv, q1, hw, q2] <;> with_reducible rfl))
    with_reducible refine Tl.brT ?_
    exact ⟨_, rfl, rfl⟩
  have ll : l.length ≤ 60 := by simp at q1; omega
  have lb : bs.length ≤ 200 := by simp at q2; omega
  repeat (with_reducible apply Tl.val; focus (simp only [bnd_some, bin_add, bin_sub, bin_mul, bin_lss, bin_leq, bin_gtr, bin_geq, bin_eql, bin_neq, un_not, un_neg, goInt, gd_tt, gd_ff, gd_tf, gd_ft, gd_sk, gd3_tt, gd3_ff, gd3_tf, gd3_ft, gd3_sk, Option.map_some, lt_some, pick_t, pick_f, Nat.zero_add, Bool.not_true, Bool.not_false, Bool.true_and, Bool.false_and, Bool.and_true, Bool.and_false, cond_true, cond_false, beq_self_eq_true, Int.reduceBEq, decide_true, decide_false, ld2, ld3, ld5, ld23, ld25, ld47, fa47_0, conv_int u2 u23, conv_int u23 u2, conv_int u23 u5, conv_int u5 u23, bin_eql_bool u4, xor64u, xor64i, and64u, or64u, or8, and8, nil32, ptr32, sl25, nilc, ex0, ex1, hv, q1, hw, q2] <;> with_reducible rfl))
  with_reducible refine Tl.brF ?_
  refine f4_loop1 (k := k + 1900) A ll hx l.length (i := 0) (by omega) (by omega) (by simpa [flatB, ints] using ob_nil h.n h) (Grow.refl _) fun h1 v5 y6 y O1 G1 => ?_
  have fl := flatB_len l hx
  have fi : (ints (flatB l)).length = (flatB l).length := by simp [ints]
  -- the reader of what was written
  have N1 : Tl (eInv env (k + 2000) (.func 12) #[] #[v5] h1) fun r => ∃ br, r.1 = .pointer (some ⟨br, 0, none⟩) ∧ RS h.n r.2 br (flatB l) ∧ Grow h1 r.2 := by
    rcases O1 with ⟨rfl, hnil⟩ | ⟨b, hb0, X⟩
    · have hnil' : flatB l = [] := by simpa [ints] using hnil
      refine (f12z (k := k + 1998) h1).mono ?_
      rintro r ⟨br, e1, R, hbr, g⟩
      exact ⟨br, e1, .inr ⟨hnil', by have := G1.1; omega, R⟩, g⟩
    · have form := X.form
      subst form
      refine (f12c (k := k + 1998) (l := ints (flatB l)) X.slV (by omega)).mono ?_
      rintro r ⟨br, bb, e1, R, hbr, hbb, hne, g⟩
      have := G1.1
      exact ⟨br, e1, .inl ⟨bb, hne, by omega, by omega, R⟩, g⟩
  with_reducible refine Tl.seq N1 ?_
  rintro ⟨x45, h2⟩ ⟨br, e45, R, g2⟩
  simp only at e45 R g2
  subst e45
  refine f4_loop2 (k := k) A ll hx l.length (i := 0) (by omega) (by omega) (by rw [List.drop_zero]; exact R) (G1.trans g2) fun h3 y8 yy R3 G3 => ?_
  have B3 := B.grow G3
  -- the end
  have fin : ∀ (h9 : AH), Grow h3 h9 → Tl (Ev.bnd (eInv env (k + 2000) (.func 15) #[] #[.pointer (some ⟨br, 0, none⟩)] h9) fun x132 => Ev.bnd (pBin Try.prog Go.BinOp.eql 3 (Go.Operand.tmp 132) (Go.Operand.const (Go.Value.int Go.IntKind.i64 0)) x132.1 (Go.Value.int Go.IntKind.i64 0)) fun x133 => some (x133, x132.2)) fun r => r.1 = .bool true := by
    intro h9 g9
    have e0 : ((0 : Int) == 0) = true := by decide
    have en : (((([] : List Int).length : Nat) : Int) == 0) = true := by decide
    rcases R3.keep g9 with ⟨bb, _, _, _, R9⟩ | ⟨_, _, R9⟩
    · have f := f15 (k := k + 1999) R9
      have il : (ints ([] : List Nat)) = [] := rfl
      rw [il] at f
      repeat (with_reducible apply Tl.val; focus (simp only [bnd_some, bin_add, bin_sub, bin_mul, bin_lss, bin_leq, bin_gtr, bin_geq, bin_eql, bin_neq, un_not, un_neg, goInt, gd_tt, gd_ff, gd_tf, gd_ft, gd_sk, gd3_tt, gd3_ff, gd3_tf, gd3_ft, gd3_sk, Option.map_some, lt_some, pick_t, pick_f, Nat.zero_add, Bool.not_true, Bool.not_false, Bool.true_and, Bool.false_and, Bool.and_true, Bool.and_false, cond_true, cond_false, beq_self_eq_true, Int.reduceBEq, decide_true, decide_false, ld2, ld3, ld5, ld23, ld25, ld47, fa47_0, conv_int u2 u23, conv_int u23 u2, conv_int u23 u5, conv_int u5 u23, bin_eql_bool u4, xor64u, xor64i, and64u, or64u, or8, and8, nil32, ptr32, sl25, nilc, ex0, ex1, f, en] <;> with_reducible rfl))
      exact ⟨_, rfl, rfl⟩
    · have f := f15z (k := k + 1999) R9
      repeat (with_reducible apply Tl.val; focus (simp only [bnd_some, bin_add, bin_sub, bin_mul, bin_lss, bin_leq, bin_gtr, bin_geq, bin_eql, bin_neq, un_not, un_neg, goInt, gd_tt, gd_ff, gd_tf, gd_ft, gd_sk, gd3_tt, gd3_ff, gd3_tf, gd3_ft, gd3_sk, Option.map_some, lt_some, pick_t, pick_f, Nat.zero_add, Bool.not_true, Bool.not_false, Bool.true_and, Bool.false_and, Bool.and_true, Bool.and_false, cond_true, cond_false, beq_self_eq_true, Int.reduceBEq, decide_true, decide_false, ld2, ld3, ld5, ld23, ld25, ld47, fa47_0, conv_int u2 u23, conv_int u23 u2, conv_int u23 u5, conv_int u5 u23, bin_eql_bool u4, xor64u, xor64i, and64u, or64u, or8, and8, nil32, ptr32, sl25, nilc, ex0, ex1, f, e0] <;> with_reducible rfl))
      exact ⟨_, rfl, rfl⟩
  have bad : ((0 : Int) == 0) = true := by decide
  rcases B3 with ⟨rfl, hnil⟩ | ⟨b, o, cap, own, hv1, hcap, Lb⟩
  · -- of nil bytes
    have hnil' : bs = [] := by simpa [ints] using hnil
    subst hnil'
    with_reducible refine Tl.seq (f12z (k := k + 1998) h3) ?_
    rintro ⟨x92, h4⟩ ⟨br2, e92, R4, hbr2, g4⟩
    simp only at e92 R4 g4
    subst e92
    with_reducible refine Tl.seq (f13z (k := k + 1990) R4) ?_
    rintro ⟨r5, h5⟩ ⟨er, hne0, e5⟩
    simp only [Prod.mk.injEq] at e5
    obtain ⟨rfl, rfl⟩ := e5
    have e1 : (er == 0) = false := by simpa using hne0
    have left := f15z (k := k + 1999) R4
    have ne0 : ((0 : Int) != (([] : List Nat).length : Int)) = false := by decide
    repeat (with_reducible apply Tl.val; focus (simp only [bnd_some, bin_add, bin_sub, bin_mul, bin_lss, bin_leq, bin_gtr, bin_geq, bin_eql, bin_neq, un_not, un_neg, goInt, gd_tt, gd_ff, gd_tf, gd_ft, gd_sk, gd3_tt, gd3_ff, gd3_tf, gd3_ft, gd3_sk, Option.map_some, lt_some, pick_t, pick_f, Nat.zero_add, Bool.not_true, Bool.not_false, Bool.true_and, Bool.false_and, Bool.and_true, Bool.and_false, cond_true, cond_false, beq_self_eq_true, Int.reduceBEq, decide_true, decide_false, ld2, ld3, ld5, ld23, ld25, ld47, fa47_0, conv_int u2 u23, conv_int u23 u2, conv_int u23 u5, conv_int u5 u23, bin_eql_bool u4, xor64u, xor64i, and64u, or64u, or8, and8, nil32, ptr32, sl25, nilc, ex0, ex1, e1] <;> with_reducible rfl))
    unfold F4_rlrrrrrrrrr
    with_reducible refine Tl.brF ?_
    repeat (with_reducible apply Tl.val; focus (simp only [bnd_some, bin_add, bin_sub, bin_mul, bin_lss, bin_leq, bin_gtr, bin_geq, bin_eql, bin_neq, un_not, un_neg, goInt, gd_tt, gd_ff, gd_tf, gd_ft, gd_sk, gd3_tt, gd3_ff, gd3_tf, gd3_ft, gd3_sk, Option.map_some, lt_some, pick_t, pick_f, Nat.zero_add, Bool.not_true, Bool.not_false, Bool.true_and, Bool.false_and, Bool.and_true, Bool.and_false, cond_true, cond_false, beq_self_eq_true, Int.reduceBEq, decide_true, decide_false, ld2, ld3, ld5, ld23, ld25, ld47, fa47_0, conv_int u2 u23, conv_int u23 u2, conv_int u23 u5, conv_int u5 u23, bin_eql_bool u4, xor64u, xor64i, and64u, or64u, or8, and8, nil32, ptr32, sl25, nilc, ex0, ex1, left, hw, ne0] <;> with_reducible rfl))
    with_reducible refine Tl.brF ?_
    exact fin h5 g4
  · subst hv1
    have ib : (ints bs).length = bs.length := by simp [ints]
    have B4 : Bytes h3 (.slice (some ⟨b, o, none⟩) ((ints bs).map brow).length cap) (ints bs) := .inr ⟨b, o, cap, own, rfl, hcap, Lb⟩
    with_reducible refine Tl.seq (f12c (k := k + 1998) B4 (by omega)) ?_
    rintro ⟨x92, h4⟩ ⟨br2, bb2, e92, R4, hbr2, hbb2, hne2, g4⟩
    simp only at e92 R4 g4
    subst e92
    with_reducible refine Tl.seq (f13 (k := k + 1994) R4 hne2 (by omega) hb (by omega)) ?_
    rintro ⟨r5, h5⟩ (⟨v, rest, d5, e5, R5, n5, o5⟩ | ⟨d5, er, hne0, e5⟩)
    · -- a number
      simp only at e5 R5 n5 o5
      subst e5
      obtain ⟨w, hw1, hw2, _, hw4⟩ := dec_conv bs hb (by omega) d5
      simp only [Nat.mul_zero, Nat.pow_zero, Nat.mul_one, Nat.zero_add] at hw2 hw4
      subst hw2
      have g5 : Grow h3 h5 := ⟨by rw [n5]; exact g4.1, fun q hq => (o5 q (by omega)).trans (g4.2 q hq)⟩
      have p10 := pvar_le10 hw4
      have pl : (pvar v).length = (pvarN v).length := by rw [← ints_pvarN]; simp [ints]
      have hlen : bs.length = (pvarN v).length + rest.length := by rw [hw1]; simp
      unfold F4_rlrrrrrrrrr
      repeat (with_reducible apply Tl.val; focus (simp only [bnd_some, bin_add, bin_sub, bin_mul, bin_lss, bin_leq, bin_gtr, bin_geq, bin_eql, bin_neq, un_not, un_neg, goInt, gd_tt, gd_ff, gd_tf, gd_ft, gd_sk, gd3_tt, gd3_ff, gd3_tf, gd3_ft, gd3_sk, Option.map_some, lt_some, pick_t, pick_f, Nat.zero_add, Bool.not_true, Bool.not_false, Bool.true_and, Bool.false_and, Bool.and_true, Bool.and_false, cond_true, cond_false, beq_self_eq_true, Int.reduceBEq, decide_true, decide_false, ld2, ld3, ld5, ld23, ld25, ld47, fa47_0, conv_int u2 u23, conv_int u23 u2, conv_int u23 u5, conv_int u5 u23, bin_eql_bool u4, xor64u, xor64i, and64u, or64u, or8, and8, nil32, ptr32, sl25, nilc, ex0, ex1, bad] <;> with_reducible rfl))
      with_reducible refine Tl.brT ?_
      with_reducible refine Tl.seq (f9c (k := k + 1999) (n0 := h5.n) (l := []) v (ob_nil _ _) (Nat.le_refl _) (by omega) (by simp; omega)) ?_
      rintro ⟨p, h6⟩ ⟨O6, g6⟩
      simp only at O6 g6
      rw [List.nil_append] at O6
      have g6' : Grow h5 h6 := g6
      have lp : ∀ h', pLen Try.prog #[25] p h' = some (.int .i64 (pvar v).length) := fun h' => OB.len O6
      have R6 := R5.keep (g6'.2 _ R5.lt.1) (g6'.2 _ R5.lt.2)
      have left := f15 (k := k + 1999) R6
      have il : (ints rest).length = rest.length := by simp [ints]
      rw [il] at left
      have c1 : decide (((pvar v).length : Int) > (bs.length : Int)) = false := by simp; omega
      have wd : IntKind.i64.wrap ((bs.length : Int) - (rest.length : Int)) = ((pvar v).length : Int) := by rw [wrap_i64']; split <;> omega
      have ne : (((pvar v).length : Int) != ((pvar v).length : Int)) = false := by simp
      have sl := slice_h2 (h := h6) (b := b) (o := o) (len := ((ints bs).map brow).length) (c := cap) (n := (pvar v).length) (by simp [ib]; omega) hcap
      have B6 : Bytes h6 (.slice (some ⟨b, o, none⟩) (pvar v).length cap) (pvar v) := by
        have L6 := (lie_take (n := (pvar v).length) Lb).grow ((g5.trans g6').2 _ Lb.lt)
        have et : (ints bs).take (pvar v).length = pvar v := by
          have e1 : ints bs = pvar v ++ ints rest := by
            conv => lhs; rw [hw1]
            rw [← ints_pvarN]
            simp [ints]
          rw [e1, List.take_left']
          rfl
        rw [et] at L6
        exact .inr ⟨b, o, cap, own, by simp, by simp [ib] at hcap ⊢; omega, L6⟩
      have same := f16c (k := k + 1999) (OwnB.slV O6) B6 (by omega) (by omega)
      repeat (with_reducible apply Tl.val; focus (simp only [bnd_some, bin_add, bin_sub, bin_mul, bin_lss, bin_leq, bin_gtr, bin_geq, bin_eql, bin_neq, un_not, un_neg, goInt, gd_tt, gd_ff, gd_tf, gd_ft, gd_sk, gd3_tt, gd3_ff, gd3_tf, gd3_ft, gd3_sk, Option.map_some, lt_some, pick_t, pick_f, Nat.zero_add, Bool.not_true, Bool.not_false, Bool.true_and, Bool.false_and, Bool.and_true, Bool.and_false, cond_true, cond_false, beq_self_eq_true, Int.reduceBEq, decide_true, decide_false, ld2, ld3, ld5, ld23, ld25, ld47, fa47_0, conv_int u2 u23, conv_int u23 u2, conv_int u23 u5, conv_int u5 u23, bin_eql_bool u4, xor64u, xor64i, and64u, or64u, or8, and8, nil32, ptr32, sl25, nilc, ex0, ex1, lp, hw, c1, left, wd, ne, sl, same] <;> with_reducible rfl))
      with_reducible refine Tl.brF ?_
      exact fin h6 (g5.trans g6')
    · -- none
      simp only [Prod.mk.injEq] at e5
      obtain ⟨rfl, rfl⟩ := e5
      have e1 : (er == 0) = false := by simpa using hne0
      have left := f15 (k := k + 1999) R4
      rw [ib] at left
      have ne : ((bs.length : Int) != (bs.length : Int)) = false := by simp
      unfold F4_rlrrrrrrrrr
      repeat (with_reducible apply Tl.val; focus (simp only [bnd_some, bin_add, bin_sub, bin_mul, bin_lss, bin_leq, bin_gtr, bin_geq, bin_eql, bin_neq, un_not, un_neg, goInt, gd_tt, gd_ff, gd_tf, gd_ft, gd_sk, gd3_tt, gd3_ff, gd3_tf, gd3_ft, gd3_sk, Option.map_some, lt_some, pick_t, pick_f, Nat.zero_add, Bool.not_true, Bool.not_false, Bool.true_and, Bool.false_and, Bool.and_true, Bool.and_false, cond_true, cond_false, beq_self_eq_true, Int.reduceBEq, decide_true, decide_false, ld2, ld3, ld5, ld23, ld25, ld47, fa47_0, conv_int u2 u23, conv_int u23 u2, conv_int u23 u5, conv_int u5 u23, bin_eql_bool u4, xor64u, xor64i, and64u, or64u, or8, and8, nil32, ptr32, sl25, nilc, ex0, ex1, e1] <;> with_reducible rfl))
      with_reducible refine Tl.brF ?_
      repeat (with_reducible apply Tl.val; focus (simp only [bnd_some, bin_add, bin_sub, bin_mul, bin_lss, bin_leq, bin_gtr, bin_geq, bin_eql, bin_neq, un_not, un_neg, goInt, gd_tt, gd_ff, gd_tf, gd_ft, gd_sk, gd3_tt, gd3_ff, gd3_tf, gd3_ft, gd3_sk, Option.map_some, lt_some, pick_t, pick_f, Nat.zero_add, Bool.not_true, Bool.not_false, Bool.true_and, Bool.false_and, Bool.and_true, Bool.and_false, cond_true, cond_false, beq_self_eq_true, Int.reduceBEq, decide_true, decide_false, ld2, ld3, ld5, ld23, ld25, ld47, fa47_0, conv_int u2 u23, conv_int u23 u2, conv_int u23 u5, conv_int u5 u23, bin_eql_bool u4, xor64u, xor64i, and64u, or64u, or8, and8, nil32, ptr32, sl25, nilc, ex0, ex1, left, hw, ne] <;> with_reducible rfl))
      with_reducible refine Tl.brF ?_
      exact fin h5 g4
end Go.Proofs.Ytchfdnboojamnaa.Sh
