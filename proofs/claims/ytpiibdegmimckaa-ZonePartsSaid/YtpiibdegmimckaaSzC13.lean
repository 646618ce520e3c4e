/- 'ZoneParts' comes to true. -/
import Derived.Test.YtpiibdegmimckaaSzC12
import Derived.Test.YtpiibdegmimckaaEv31
import Derived.Test.YtpiibdegmimckaaBits
set_option linter.unusedVariables false
set_option linter.unusedSimpArgs false
namespace Go.Proofs.Ytpiibdegmimckaa.Sh
open Go Go.RowKit Go.Proofs.Ev Go.Lib Go.ChangeShapes Go.WideShapes

/-! ### The arithmetic -/
def kinds (kind : Int) (l : List CellD) : Prop := ∀ x ∈ l, x.k = 0 ∨ x.k = kind
theorem may_of_is' {l : List CellD} {kind op : Int} {c x : CellD} (hl : l.length ≤ 60) (hall : kinds kind l) (hx : x ∈ l) (h : isB op x c = true) : mayB (ofZ l) op c = true := by
  rw [ofZ_rep l (by omega)]
  unfold isB at h
  simp only [Bool.and_eq_true, decide_eq_true_eq] at h
  obtain ⟨h1, h2, h3⟩ := h
  have hv : x ∈ vals l := mem_vals.2 ⟨hx, h2⟩
  have hne : vals l ≠ [] := by intro q; rw [q] at hv; cases hv
  obtain ⟨m1, m2⟩ := mnL_spec hne
  obtain ⟨x1, x2⟩ := mxL_spec hne
  have hpos : 0 < (vals l).length := List.length_pos_iff.2 hne
  have hkind : ∀ y ∈ vals l, y.k = kind := fun y hy => by
    obtain ⟨p1, p2⟩ := mem_vals.1 hy
    exact (hall y p1).resolve_left p2
  unfold mayB repZ
  simp only
  rw [if_neg (by
    rintro (q | q | q)
    · exact h2 (h1.trans q)
    · omega
    · exact q (by rw [← h1, hkind x hv, hkind _ m1]))]
  exact so_may (m2 x hv) (x2 x hv) h3
theorem may_self {l : List CellD} {kind op : Int} {x : CellD} (hl : l.length ≤ 60) (hall : kinds kind l) (hx : x ∈ l) (h0 : x.k ≠ 0) (ho : op = 1 ∨ op = 4 ∨ op = 6) : mayB (ofZ l) op x = true := by
  refine may_of_is' hl hall hx ?_
  unfold isB
  rw [CellD.cmp_self]
  rcases ho with rfl | rfl | rfl <;> simp [h0, soB]
theorem may_part {l l' : List CellD} {kind op : Int} {c : CellD} (hl : l.length ≤ 60) (hl' : l'.length ≤ 60) (hsub : ∀ x ∈ l', x ∈ l) (hall : kinds kind l) (h : mayB (ofZ l') op c = true) : mayB (ofZ l) op c = true := by
  rw [ofZ_rep l' (by omega)] at h
  rw [ofZ_rep l (by omega)]
  unfold mayB repZ at h ⊢
  simp only at h ⊢
  split at h
  · cases h
  rename_i hn
  have n1 : ¬ c.k = 0 := fun q => hn (.inl q)
  have n2 : ¬ (l'.length : Int) = l'.length - (vals l').length := fun q => hn (.inr (.inl q))
  have n3 : c.k = (mnL (vals l')).k := Decidable.not_not.1 fun q => hn (.inr (.inr q))
  have hne' : vals l' ≠ [] := by intro q; rw [q] at n2; simp at n2
  have hv : ∀ x ∈ vals l', x ∈ vals l := fun x hx => by
    obtain ⟨p1, p2⟩ := mem_vals.1 hx
    exact mem_vals.2 ⟨hsub x p1, p2⟩
  obtain ⟨a1, a2⟩ := mnL_spec hne'
  obtain ⟨b1, b2⟩ := mxL_spec hne'
  have hne : vals l ≠ [] := by intro q; have := hv _ a1; rw [q] at this; cases this
  obtain ⟨m1, m2⟩ := mnL_spec hne
  obtain ⟨x1, x2⟩ := mxL_spec hne
  have hpos : 0 < (vals l).length := List.length_pos_iff.2 hne
  have hkind : ∀ y ∈ vals l, y.k = kind := fun y hy => by
    obtain ⟨p1, p2⟩ := mem_vals.1 hy
    exact (hall y p1).resolve_left p2
  have lo := m2 _ (hv _ a1)
  have hi := x2 _ (hv _ b1)
  rw [if_neg (by
    rintro (q | q | q)
    · exact n1 q
    · omega
    · exact q (by rw [n3, hkind _ (hv _ a1), hkind _ m1]))]
  by_cases o1 : op = 1
  · rw [if_pos o1] at h ⊢
    simp only [Bool.and_eq_true, decide_eq_true_eq] at h ⊢
    exact ⟨CellD.cmp_trans lo h.1, ge_right hi h.2⟩
  rw [if_neg o1] at h ⊢
  by_cases o2 : op = 2
  · rw [if_pos o2] at h ⊢
    have key : ¬ ((mnL (vals l)).cmp c = 0 ∧ (mxL (vals l)).cmp c = 0) := by
      rintro ⟨q1, q2⟩
      have e1 := (CellD.cmp_zero _ _).1 q1
      have e2 := (CellD.cmp_zero _ _).1 q2
      have f1 : mnL (vals l') = c := CellD.cmp_antisymm (by rw [← e2]; exact x2 _ (hv _ a1)) (by rw [← e1]; exact m2 _ (hv _ a1))
      have f2 : mxL (vals l') = c := CellD.cmp_antisymm (by rw [← e2]; exact x2 _ (hv _ b1)) (by rw [← e1]; exact m2 _ (hv _ b1))
      rw [f1, f2, CellD.cmp_self] at h
      simp at h
    by_cases q1 : (mnL (vals l)).cmp c = 0
    · have q2 : ¬ (mxL (vals l)).cmp c = 0 := fun q => key ⟨q1, q⟩
      have q2' : ((mxL (vals l)).cmp c != 0) = true := by simpa using q2
      simp [q2']
    · have q1' : ((mnL (vals l)).cmp c != 0) = true := by simpa using q1
      simp [q1']
  rw [if_neg o2] at h ⊢
  by_cases o3 : op = 3
  · rw [if_pos (.inl o3)] at h ⊢
    subst o3
    have hx : (mnL (vals l')).cmp c < 0 := by simpa [soB] using h
    simpa [soB] using lt_left lo hx
  by_cases o4 : op = 4
  · rw [if_pos (.inr o4)] at h ⊢
    subst o4
    have hx : (mnL (vals l')).cmp c ≤ 0 := by simpa [soB] using h
    simpa [soB] using CellD.cmp_trans lo hx
  rw [if_neg (fun q => q.elim o3 o4)] at h ⊢
  by_cases o5 : op = 5
  · subst o5
    have hx : (mxL (vals l')).cmp c > 0 := by simpa [soB] using h
    simpa [soB] using gt_right hi hx
  by_cases o6 : op = 6
  · subst o6
    have hx : (mxL (vals l')).cmp c ≥ 0 := by simpa [soB] using h
    simpa [soB] using ge_right hi hx
  · simp [soB, o1, o2, o3, o4, o5, o6] at h
/-! ### The walk -/
def CellsE (h : AH) (v : Value) (l : List CellD) : Prop := SlE Try.prog h v 3 (l.map crow)
theorem CellsE.cells {h : AH} {v : Value} {l : List CellD} (S : CellsE h v l) : Cells h v l := SlE.slV S
theorem CellsE.grow {h h' : AH} {v : Value} {l : List CellD} (S : CellsE h v l) (g : Grow h h') : CellsE h' v l := SlE.grow S g
theorem CellsE.slice {h : AH} {v : Value} {l : List CellD} (S : CellsE h v l) {lo hi : Option Value} {i j : Nat} (hlo : intOr 0 lo = some (i : Int)) (hhi : intOr (l.length : Int) hi = some (j : Int)) (hij : i ≤ j) (hj : j ≤ l.length) :
    ∃ v', (∀ h', Grow h h' → pSlice Try.prog 22 v lo hi none h' = some v') ∧ CellsE h v' ((l.drop i).take (j - i)) ∧ sameV v' v' = true := by
  obtain ⟨v', h1, h2, h3⟩ := SlE.slice S u22 sz26 hlo (hi := hi) (j := j) (by simpa using hhi) hij (by simpa using hj)
  refine ⟨v', h1, ?_, h3⟩
  unfold CellsE
  rw [List.map_take, List.map_drop]
  exact h2
theorem open_cellsE {H : Type} {enc : TypeId × Value → H} {W : World} {base b0 : Nat} {sp : Nat → Bool} {held : Bool} {r : Reach} {v : Value} {d : DataW H} {ps : List MemPlace}
    (hv : Value.okWide Try.prog W r b0 22 v) (hd : DataW.Trod enc Try.prog W base sp held 22 v d ps) : ∃ l : List CellD, CellsE (extHeap W) (tame W.heap.size 8 v) l := by
  obtain ⟨rows, h1, _, h2⟩ := open_rowsE u22 co26 (by omega) hv hd
  obtain ⟨l, rfl⟩ := rows_cells fun i q hq => by
    obtain ⟨fuel, y, hy⟩ := h2 i q hq
    obtain ⟨a, ha, _⟩ := trod_cell hy
    exact ⟨a, ha⟩
  refine ⟨l, ?_⟩
  unfold CellsE
  rw [List.map_map] at h1
  rw [show (fun q => List.map (tame W.heap.size 8) q) ∘ crow = crow from funext fun c => tame_crow _ c] at h1
  exact h1
/-- 'Pick'. -/
theorem f13c {k : Nat} (n : Int) (m : Nat) (h1 : 1 ≤ m) (h2 : m ≤ 100000) (h : AH) : ∃ w : Nat, w < m ∧ eInv env (k + 1) (.func 13) #[] #[.int .i64 n, .int .i64 m] h = some (.int .i64 w, h) := by
  have T : Tl (F13 (eInv env k) k (.int .i64 n) (.int .i64 m) h) fun r => ∃ w : Nat, w < m ∧ r = (.int .i64 w, h) := by
    unfold F13
    have e : decide ((m : Int) < 1) = false := by simp; omega
    have r1 := Int.tmod_lt_of_pos n (show (0 : Int) < m by omega)
    have r2 : -(m : Int) < n.tmod m := by
      have h1 := Int.tmod_lt_of_pos (-n) (show (0 : Int) < m by omega)
      rw [Int.neg_tmod] at h1
      omega
    repeat (with_reducible apply Tl.val; focus (simp only [bnd_some, bin_add, bin_sub, bin_mul, bin_lss, bin_leq, bin_gtr, bin_geq, bin_eql, bin_neq, un_not, un_neg, goInt, gd_tt, gd_ff, gd_tf, gd_ft, gd_sk, gd3_tt, gd3_ff, gd3_tf, gd3_ft, gd3_sk, Option.map_some, lt_some, pick_t, pick_f, Nat.zero_add, Bool.not_true, Bool.not_false, Bool.true_and, Bool.false_and, Bool.and_true, Bool.and_false, cond_true, cond_false, beq_self_eq_true, Int.reduceBEq, decide_true, decide_false, ld2, ld3, ld9, ld26, ld28, fa26_0, fa26_1, fa26_2, fa28_0, fa28_1, fa28_2, fa28_3, aggV, aggZ, eql26, neq26, eql28, bin_eql_bool u4, e] <;> with_reducible rfl))
    with_reducible refine Tl.brF ?_
    unfold F13_rlrrr
    by_cases q : n.tmod m < 0
    · have e1 : decide (n.tmod m < 0) = true := by simpa using q
      have w1 : IntKind.i64.wrap (n.tmod m + m) = (((n.tmod m + m).toNat : Nat) : Int) := by rw [wrap_i64 (by omega) (by omega)]; omega
      repeat (with_reducible apply Tl.val; focus (simp only [bnd_some, bin_add, bin_sub, bin_mul, bin_lss, bin_leq, bin_gtr, bin_geq, bin_eql, bin_neq, un_not, un_neg, goInt, gd_tt, gd_ff, gd_tf, gd_ft, gd_sk, gd3_tt, gd3_ff, gd3_tf, gd3_ft, gd3_sk, Option.map_some, lt_some, pick_t, pick_f, Nat.zero_add, Bool.not_true, Bool.not_false, Bool.true_and, Bool.false_and, Bool.and_true, Bool.and_false, cond_true, cond_false, beq_self_eq_true, Int.reduceBEq, decide_true, decide_false, ld2, ld3, ld9, ld26, ld28, fa26_0, fa26_1, fa26_2, fa28_0, fa28_1, fa28_2, fa28_3, aggV, aggZ, eql26, neq26, eql28, bin_eql_bool u4, bin_rem (show (m : Int) ≠ 0 by omega), e1] <;> with_reducible rfl))
      with_reducible refine Tl.brT ?_
      repeat (with_reducible apply Tl.val; focus (simp only [bnd_some, bin_add, bin_sub, bin_mul, bin_lss, bin_leq, bin_gtr, bin_geq, bin_eql, bin_neq, un_not, un_neg, goInt, gd_tt, gd_ff, gd_tf, gd_ft, gd_sk, gd3_tt, gd3_ff, gd3_tf, gd3_ft, gd3_sk, Option.map_some, lt_some, pick_t, pick_f, Nat.zero_add, Bool.not_true, Bool.not_false, Bool.true_and, Bool.false_and, Bool.and_true, Bool.and_false, cond_true, cond_false, beq_self_eq_true, Int.reduceBEq, decide_true, decide_false, ld2, ld3, ld9, ld26, ld28, fa26_0, fa26_1, fa26_2, fa28_0, fa28_1, fa28_2, fa28_3, aggV, aggZ, eql26, neq26, eql28, bin_eql_bool u4, w1] <;> with_reducible rfl))
      exact ⟨_, rfl, _, by omega, rfl⟩
    · have e1 : decide (n.tmod m < 0) = false := by simpa using q
      repeat (with_reducible apply Tl.val; focus (simp only [bnd_some, bin_add, bin_sub, bin_mul, bin_lss, bin_leq, bin_gtr, bin_geq, bin_eql, bin_neq, un_not, un_neg, goInt, gd_tt, gd_ff, gd_tf, gd_ft, gd_sk, gd3_tt, gd3_ff, gd3_tf, gd3_ft, gd3_sk, Option.map_some, lt_some, pick_t, pick_f, Nat.zero_add, Bool.not_true, Bool.not_false, Bool.true_and, Bool.false_and, Bool.and_true, Bool.and_false, cond_true, cond_false, beq_self_eq_true, Int.reduceBEq, decide_true, decide_false, ld2, ld3, ld9, ld26, ld28, fa26_0, fa26_1, fa26_2, fa28_0, fa28_1, fa28_2, fa28_3, aggV, aggZ, eql26, neq26, eql28, bin_eql_bool u4, bin_rem (show (m : Int) ≠ 0 by omega), e1] <;> with_reducible rfl))
      with_reducible refine Tl.brF ?_
      refine ⟨_, rfl, (n.tmod m).toNat, by omega, ?_⟩
      rw [show (((n.tmod m).toNat : Nat) : Int) = n.tmod m by omega]
  obtain ⟨r, hr, w, hw, rfl⟩ := T
  exact ⟨w, hw, by rw [F13_call]; exact hr⟩
theorem f4_loop1 {β : Type} {k : Nat} {Q : β → Prop} {h0 : AH} {b7 : Nat} {v : Value} {l : List CellD} {c : CellD} {kind : Int} {cut op : Value} (S : Cells h0 v l) (hl : l.length ≤ 60) {ke0 : Value → Value → Value → Value → Value → Value → Value → AH → Option β} {kr : Value → AH → Option β} (n : Nat) :
    ∀ {i j : Nat} {h : AH}, i + n = l.length → n < j → Sta h0.n h0 h [cb b7 c] →
      (∀ h' y y', Sta h0.n h0 h' [cb b7 c] → kinds kind (l.drop i) → Tl (ke0 (.int .i64 kind) v cut op (pt b7) y y' h') Q) → (∀ h', Tl (kr (.bool true) h') Q) →
      Tl (F4_lrlrrr (eInv env (k + 100)) (k + 100) j (.int .i64 kind) v cut op (pt b7) (.int .i64 i) h ke0 kr) Q := by
  have hlen : ∀ h', pLen Try.prog #[22] v h' = some (.int .i64 l.length) := fun h' => S.len
  induction n with
  | zero =>
    intro i j h hi hj T hk hr
    obtain ⟨j, rfl⟩ : ∃ q, j = q + 1 := ⟨j - 1, by omega⟩
    simp only [F4_lrlrrr]
    have e : decide ((i : Int) < (l.length : Int)) = false := by simp; omega
    repeat (with_reducible apply Tl.val; focus (simp only [bnd_some, bin_add, bin_sub, bin_mul, bin_lss, bin_leq, bin_gtr, bin_geq, bin_eql, bin_neq, un_not, un_neg, goInt, gd_tt, gd_ff, gd_tf, gd_ft, gd_sk, gd3_tt, gd3_ff, gd3_tf, gd3_ft, gd3_sk, Option.map_some, lt_some, pick_t, pick_f, Nat.zero_add, Bool.not_true, Bool.not_false, Bool.true_and, Bool.false_and, Bool.and_true, Bool.and_false, cond_true, cond_false, beq_self_eq_true, Int.reduceBEq, decide_true, decide_false, ld2, ld3, ld9, ld26, ld28, fa26_0, fa26_1, fa26_2, fa28_0, fa28_1, fa28_2, fa28_3, aggV, aggZ, eql26, neq26, eql28, bin_eql_bool u4, hlen, e] <;> with_reducible rfl))
    with_reducible refine Tl.brF ?_
    refine hk _ _ _ T ?_
    rw [List.drop_eq_nil_of_le (by omega)]
    intro x hx; cases hx
  | succ n ih =>
    intro i j h hi hj T hk hr
    obtain ⟨j, rfl⟩ : ∃ q, j = q + 1 := ⟨j - 1, by omega⟩
    have hlt : i < l.length := by omega
    obtain ⟨x, hc⟩ : ∃ x, l[i]? = some x := ⟨_, List.getElem?_eq_getElem hlt⟩
    obtain ⟨b, o, hx, hrow, hk1, _⟩ := (S.grow T.done).at_ hc
    have hd : l.drop i = x :: l.drop (i + 1) := by
      rw [List.drop_eq_getElem_cons hlt]
      rw [List.getElem?_eq_getElem hlt] at hc
      cases hc; rfl
    have w : IntKind.i64.wrap ((i : Int) + 1) = ((i + 1 : Nat) : Int) := by rw [wrap_i64 (by omega) (by omega)]; omega
    simp only [F4_lrlrrr]
    have e : decide ((i : Int) < (l.length : Int)) = true := by simp; omega
    have hk1' : h.cell b (o + 0) = some (.int .i64 x.k) := hk1
    repeat (with_reducible apply Tl.val; focus (simp only [bnd_some, bin_add, bin_sub, bin_mul, bin_lss, bin_leq, bin_gtr, bin_geq, bin_eql, bin_neq, un_not, un_neg, goInt, gd_tt, gd_ff, gd_tf, gd_ft, gd_sk, gd3_tt, gd3_ff, gd3_tf, gd3_ft, gd3_sk, Option.map_some, lt_some, pick_t, pick_f, Nat.zero_add, Bool.not_true, Bool.not_false, Bool.true_and, Bool.false_and, Bool.and_true, Bool.and_false, cond_true, cond_false, beq_self_eq_true, Int.reduceBEq, decide_true, decide_false, ld2, ld3, ld9, ld26, ld28, fa26_0, fa26_1, fa26_2, fa28_0, fa28_1, fa28_2, fa28_3, aggV, aggZ, eql26, neq26, eql28, bin_eql_bool u4, hlen, e] <;> with_reducible rfl))
    with_reducible refine Tl.brT ?_
    have step : (x.k = 0 ∨ x.k = kind) → Tl (F4_lrlrrr (eInv env (k + 100)) (k + 100) j (.int .i64 kind) v cut op (pt b7) (.int .i64 ((i + 1 : Nat) : Int)) h ke0 kr) Q := by
      intro hg
      refine ih (by omega) (by omega) T (fun h' y y' T' hall => hk h' y y' T' ?_) hr
      rw [hd]
      intro q hq
      rcases List.mem_cons.1 hq with rfl | hq
      · exact hg
      · exact hall q hq
    cases e1 : (x.k != 0)
    · have g1 : x.k = 0 := by simpa using e1
      repeat (with_reducible apply Tl.val; focus (simp only [bnd_some, bin_add, bin_sub, bin_mul, bin_lss, bin_leq, bin_gtr, bin_geq, bin_eql, bin_neq, un_not, un_neg, goInt, gd_tt, gd_ff, gd_tf, gd_ft, gd_sk, gd3_tt, gd3_ff, gd3_tf, gd3_ft, gd3_sk, Option.map_some, lt_some, pick_t, pick_f, Nat.zero_add, Bool.not_true, Bool.not_false, Bool.true_and, Bool.false_and, Bool.and_true, Bool.and_false, cond_true, cond_false, beq_self_eq_true, Int.reduceBEq, decide_true, decide_false, ld2, ld3, ld9, ld26, ld28, fa26_0, fa26_1, fa26_2, fa28_0, fa28_1, fa28_2, fa28_3, aggV, aggZ, eql26, neq26, eql28, bin_eql_bool u4, hx, hk1', Nat.add_zero, hk1, e1, hrow] <;> with_reducible rfl))
      with_reducible refine Tl.brF ?_
      repeat (with_reducible apply Tl.val; focus (simp only [bnd_some, bin_add, bin_sub, bin_mul, bin_lss, bin_leq, bin_gtr, bin_geq, bin_eql, bin_neq, un_not, un_neg, goInt, gd_tt, gd_ff, gd_tf, gd_ft, gd_sk, gd3_tt, gd3_ff, gd3_tf, gd3_ft, gd3_sk, Option.map_some, lt_some, pick_t, pick_f, Nat.zero_add, Bool.not_true, Bool.not_false, Bool.true_and, Bool.false_and, Bool.and_true, Bool.and_false, cond_true, cond_false, beq_self_eq_true, Int.reduceBEq, decide_true, decide_false, ld2, ld3, ld9, ld26, ld28, fa26_0, fa26_1, fa26_2, fa28_0, fa28_1, fa28_2, fa28_3, aggV, aggZ, eql26, neq26, eql28, bin_eql_bool u4, w] <;> with_reducible rfl))
      exact step (.inl g1)
    · cases e2 : (x.k != kind)
      · have g2 : x.k = kind := by simpa using e2
        repeat (with_reducible apply Tl.val; focus (simp only [bnd_some, bin_add, bin_sub, bin_mul, bin_lss, bin_leq, bin_gtr, bin_geq, bin_eql, bin_neq, un_not, un_neg, goInt, gd_tt, gd_ff, gd_tf, gd_ft, gd_sk, gd3_tt, gd3_ff, gd3_tf, gd3_ft, gd3_sk, Option.map_some, lt_some, pick_t, pick_f, Nat.zero_add, Bool.not_true, Bool.not_false, Bool.true_and, Bool.false_and, Bool.and_true, Bool.and_false, cond_true, cond_false, beq_self_eq_true, Int.reduceBEq, decide_true, decide_false, ld2, ld3, ld9, ld26, ld28, fa26_0, fa26_1, fa26_2, fa28_0, fa28_1, fa28_2, fa28_3, aggV, aggZ, eql26, neq26, eql28, bin_eql_bool u4, hx, hk1', Nat.add_zero, hk1, e1, e2, hrow] <;> with_reducible rfl))
        with_reducible refine Tl.brF ?_
        repeat (with_reducible apply Tl.val; focus (simp only [bnd_some, bin_add, bin_sub, bin_mul, bin_lss, bin_leq, bin_gtr, bin_geq, bin_eql, bin_neq, un_not, un_neg, goInt, gd_tt, gd_ff, gd_tf, gd_ft, gd_sk, gd3_tt, gd3_ff, gd3_tf, gd3_ft, gd3_sk, Option.map_some, lt_some, pick_t, pick_f, Nat.zero_add, Bool.not_true, Bool.not_false, Bool.true_and, Bool.false_and, Bool.and_true, Bool.and_false, cond_true, cond_false, beq_self_eq_true, Int.reduceBEq, decide_true, decide_false, ld2, ld3, ld9, ld26, ld28, fa26_0, fa26_1, fa26_2, fa28_0, fa28_1, fa28_2, fa28_3, aggV, aggZ, eql26, neq26, eql28, bin_eql_bool u4, w] <;> with_reducible rfl))
        exact step (.inr g2)
      · repeat (with_reducible apply Tl.val; focus (simp only [bnd_some, bin_add, bin_sub, bin_mul, bin_lss, bin_leq, bin_gtr, bin_geq, bin_eql, bin_neq, un_not, un_neg, goInt, gd_tt, gd_ff, gd_tf, gd_ft, gd_sk, gd3_tt, gd3_ff, gd3_tf, gd3_ft, gd3_sk, Option.map_some, lt_some, pick_t, pick_f, Nat.zero_add, Bool.not_true, Bool.not_false, Bool.true_and, Bool.false_and, Bool.and_true, Bool.and_false, cond_true, cond_false, beq_self_eq_true, Int.reduceBEq, decide_true, decide_false, ld2, ld3, ld9, ld26, ld28, fa26_0, fa26_1, fa26_2, fa28_0, fa28_1, fa28_2, fa28_3, aggV, aggZ, eql26, neq26, eql28, bin_eql_bool u4, hx, hk1', Nat.add_zero, hk1, e1, e2, hrow] <;> with_reducible rfl))
        with_reducible refine Tl.brT ?_
        exact hr _
theorem f4_loop2 {β : Type} {k : Nat} {Q : β → Prop} {h0 : AH} {b9 b12 b13 b14 : Nat} {v : Value} {l : List CellD} {c : CellD} {z za zc : ZoneD} {op may : Value} (S : Cells h0 v l) (hl : l.length ≤ 60)
    (m : ∀ x ∈ l, x.k ≠ 0 → mayB z 1 x = true ∧ mayB z 4 x = true ∧ mayB z 6 x = true)
    {ke2 : Value → Value → Value → Value → Value → Value → Value → AH → Option β} {kr : Value → AH → Option β} (n : Nat) :
    ∀ {i j : Nat} {h : AH}, i + n = l.length → n < j → Sta h0.n h0 h [zb b14 zc, zb b13 za, zb b12 z, cb b9 c] →
      (∀ h' y y', Sta h0.n h0 h' [zb b14 zc, zb b13 za, zb b12 z, cb b9 c] → Tl (ke2 v op (pt b9) (pt b12) may y y' h') Q) →
      Tl (F4_lrlrrrrrrr (eInv env (k + 100)) (k + 100) j v op (pt b9) (pt b12) may (.int .i64 i) h ke2 kr) Q := by
  have hlen : ∀ h', pLen Try.prog #[22] v h' = some (.int .i64 l.length) := fun h' => S.len
  induction n with
  | zero =>
    intro i j h hi hj T hk
    obtain ⟨j, rfl⟩ : ∃ q, j = q + 1 := ⟨j - 1, by omega⟩
    simp only [F4_lrlrrrrrrr]
    have e : decide ((i : Int) < (l.length : Int)) = false := by simp; omega
    repeat (with_reducible apply Tl.val; focus (simp only [bnd_some, bin_add, bin_sub, bin_mul, bin_lss, bin_leq, bin_gtr, bin_geq, bin_eql, bin_neq, un_not, un_neg, goInt, gd_tt, gd_ff, gd_tf, gd_ft, gd_sk, gd3_tt, gd3_ff, gd3_tf, gd3_ft, gd3_sk, Option.map_some, lt_some, pick_t, pick_f, Nat.zero_add, Bool.not_true, Bool.not_false, Bool.true_and, Bool.false_and, Bool.and_true, Bool.and_false, cond_true, cond_false, beq_self_eq_true, Int.reduceBEq, decide_true, decide_false, ld2, ld3, ld9, ld26, ld28, fa26_0, fa26_1, fa26_2, fa28_0, fa28_1, fa28_2, fa28_3, aggV, aggZ, eql26, neq26, eql28, bin_eql_bool u4, hlen, e] <;> with_reducible rfl))
    with_reducible refine Tl.brF ?_
    exact hk _ _ _ T
  | succ n ih =>
    intro i j h hi hj T hk
    obtain ⟨j, rfl⟩ : ∃ q, j = q + 1 := ⟨j - 1, by omega⟩
    have hlt : i < l.length := by omega
    obtain ⟨x, hc⟩ : ∃ x, l[i]? = some x := ⟨_, List.getElem?_eq_getElem hlt⟩
    have hmem : x ∈ l := List.mem_of_getElem? hc
    obtain ⟨b, o, hx, hrow, hk1, _⟩ := (S.grow T.done).at_ hc
    have w : IntKind.i64.wrap ((i : Int) + 1) = ((i + 1 : Nat) : Int) := by rw [wrap_i64 (by omega) (by omega)]; omega
    simp only [F4_lrlrrrrrrr]
    have e : decide ((i : Int) < (l.length : Int)) = true := by simp; omega
    have hk1' : h.cell b (o + 0) = some (.int .i64 x.k) := hk1
    obtain ⟨z4, _⟩ := z_at T 2 rfl
    repeat (with_reducible apply Tl.val; focus (simp only [bnd_some, bin_add, bin_sub, bin_mul, bin_lss, bin_leq, bin_gtr, bin_geq, bin_eql, bin_neq, un_not, un_neg, goInt, gd_tt, gd_ff, gd_tf, gd_ft, gd_sk, gd3_tt, gd3_ff, gd3_tf, gd3_ft, gd3_sk, Option.map_some, lt_some, pick_t, pick_f, Nat.zero_add, Bool.not_true, Bool.not_false, Bool.true_and, Bool.false_and, Bool.and_true, Bool.and_false, cond_true, cond_false, beq_self_eq_true, Int.reduceBEq, decide_true, decide_false, ld2, ld3, ld9, ld26, ld28, fa26_0, fa26_1, fa26_2, fa28_0, fa28_1, fa28_2, fa28_3, aggV, aggZ, eql26, neq26, eql28, bin_eql_bool u4, hlen, e] <;> with_reducible rfl))
    with_reducible refine Tl.brT ?_
    unfold pt
    have fin : ∀ h2, Sta h0.n h0 h2 [zb b14 zc, zb b13 za, zb b12 z, cb b9 c] → Tl (F4_lrlrrrrrrr (eInv env (k + 100)) (k + 100) j v op (.pointer (some ⟨b9, 0, none⟩)) (.pointer (some ⟨b12, 0, none⟩)) may (.int .i64 ((i + 1 : Nat) : Int)) h2 ke2 kr) Q :=
      fun h2 T2 => ih (by omega) (by omega) T2 hk
    cases e1 : (x.k != 0)
    · repeat (with_reducible apply Tl.val; focus (simp only [bnd_some, bin_add, bin_sub, bin_mul, bin_lss, bin_leq, bin_gtr, bin_geq, bin_eql, bin_neq, un_not, un_neg, goInt, gd_tt, gd_ff, gd_tf, gd_ft, gd_sk, gd3_tt, gd3_ff, gd3_tf, gd3_ft, gd3_sk, Option.map_some, lt_some, pick_t, pick_f, Nat.zero_add, Bool.not_true, Bool.not_false, Bool.true_and, Bool.false_and, Bool.and_true, Bool.and_false, cond_true, cond_false, beq_self_eq_true, Int.reduceBEq, decide_true, decide_false, ld2, ld3, ld9, ld26, ld28, fa26_0, fa26_1, fa26_2, fa28_0, fa28_1, fa28_2, fa28_3, aggV, aggZ, eql26, neq26, eql28, bin_eql_bool u4, hx, hk1', Nat.add_zero, hk1, e1] <;> with_reducible rfl))
      with_reducible refine Tl.brF ?_
      repeat (with_reducible apply Tl.val; focus (simp only [bnd_some, bin_add, bin_sub, bin_mul, bin_lss, bin_leq, bin_gtr, bin_geq, bin_eql, bin_neq, un_not, un_neg, goInt, gd_tt, gd_ff, gd_tf, gd_ft, gd_sk, gd3_tt, gd3_ff, gd3_tf, gd3_ft, gd3_sk, Option.map_some, lt_some, pick_t, pick_f, Nat.zero_add, Bool.not_true, Bool.not_false, Bool.true_and, Bool.false_and, Bool.and_true, Bool.and_false, cond_true, cond_false, beq_self_eq_true, Int.reduceBEq, decide_true, decide_false, ld2, ld3, ld9, ld26, ld28, fa26_0, fa26_1, fa26_2, fa28_0, fa28_1, fa28_2, fa28_3, aggV, aggZ, eql26, neq26, eql28, bin_eql_bool u4, w] <;> with_reducible rfl))
      exact fin h T
    · obtain ⟨q1, q2, q3⟩ := m x hmem (by simpa using e1)
      repeat (with_reducible apply Tl.val; focus (simp only [bnd_some, bin_add, bin_sub, bin_mul, bin_lss, bin_leq, bin_gtr, bin_geq, bin_eql, bin_neq, un_not, un_neg, goInt, gd_tt, gd_ff, gd_tf, gd_ft, gd_sk, gd3_tt, gd3_ff, gd3_tf, gd3_ft, gd3_sk, Option.map_some, lt_some, pick_t, pick_f, Nat.zero_add, Bool.not_true, Bool.not_false, Bool.true_and, Bool.false_and, Bool.and_true, Bool.and_false, cond_true, cond_false, beq_self_eq_true, Int.reduceBEq, decide_true, decide_false, ld2, ld3, ld9, ld26, ld28, fa26_0, fa26_1, fa26_2, fa28_0, fa28_1, fa28_2, fa28_3, aggV, aggZ, eql26, neq26, eql28, bin_eql_bool u4, hx, hk1', Nat.add_zero, hk1, e1, hrow, z4] <;> with_reducible rfl))
      with_reducible refine Tl.gd3_on ?_
      with_reducible refine Tl.call T (f14c (k := k + 79) z 1 x h) fun h1 T1 _ => ?_
      obtain ⟨b', o', hx1, hrow1, _, _⟩ := (S.grow T1.done).at_ hc
      obtain ⟨y4, _⟩ := z_at T1 2 rfl
      repeat (with_reducible apply Tl.val; focus (simp only [bnd_some, bin_add, bin_sub, bin_mul, bin_lss, bin_leq, bin_gtr, bin_geq, bin_eql, bin_neq, un_not, un_neg, goInt, gd_tt, gd_ff, gd_tf, gd_ft, gd_sk, gd3_tt, gd3_ff, gd3_tf, gd3_ft, gd3_sk, Option.map_some, lt_some, pick_t, pick_f, Nat.zero_add, Bool.not_true, Bool.not_false, Bool.true_and, Bool.false_and, Bool.and_true, Bool.and_false, cond_true, cond_false, beq_self_eq_true, Int.reduceBEq, decide_true, decide_false, ld2, ld3, ld9, ld26, ld28, fa26_0, fa26_1, fa26_2, fa28_0, fa28_1, fa28_2, fa28_3, aggV, aggZ, eql26, neq26, eql28, bin_eql_bool u4, q1, hx1, hrow1, y4] <;> with_reducible rfl))
      with_reducible refine Tl.gd3_on ?_
      with_reducible refine Tl.call T1 (f14c (k := k + 79) z 4 x h1) fun h2 T2 _ => ?_
      obtain ⟨b'', o'', hx2, hrow2, _, _⟩ := (S.grow T2.done).at_ hc
      obtain ⟨w4, _⟩ := z_at T2 2 rfl
      repeat (with_reducible apply Tl.val; focus (simp only [bnd_some, bin_add, bin_sub, bin_mul, bin_lss, bin_leq, bin_gtr, bin_geq, bin_eql, bin_neq, un_not, un_neg, goInt, gd_tt, gd_ff, gd_tf, gd_ft, gd_sk, gd3_tt, gd3_ff, gd3_tf, gd3_ft, gd3_sk, Option.map_some, lt_some, pick_t, pick_f, Nat.zero_add, Bool.not_true, Bool.not_false, Bool.true_and, Bool.false_and, Bool.and_true, Bool.and_false, cond_true, cond_false, beq_self_eq_true, Int.reduceBEq, decide_true, decide_false, ld2, ld3, ld9, ld26, ld28, fa26_0, fa26_1, fa26_2, fa28_0, fa28_1, fa28_2, fa28_3, aggV, aggZ, eql26, neq26, eql28, bin_eql_bool u4, q2, hx2, hrow2, w4] <;> with_reducible rfl))
      with_reducible refine Tl.gd3_on ?_
      with_reducible refine Tl.call T2 (f14c (k := k + 79) z 6 x h2) fun h3 T3 _ => ?_
      repeat (with_reducible apply Tl.val; focus (simp only [bnd_some, bin_add, bin_sub, bin_mul, bin_lss, bin_leq, bin_gtr, bin_geq, bin_eql, bin_neq, un_not, un_neg, goInt, gd_tt, gd_ff, gd_tf, gd_ft, gd_sk, gd3_tt, gd3_ff, gd3_tf, gd3_ft, gd3_sk, Option.map_some, lt_some, pick_t, pick_f, Nat.zero_add, Bool.not_true, Bool.not_false, Bool.true_and, Bool.false_and, Bool.and_true, Bool.and_false, cond_true, cond_false, beq_self_eq_true, Int.reduceBEq, decide_true, decide_false, ld2, ld3, ld9, ld26, ld28, fa26_0, fa26_1, fa26_2, fa28_0, fa28_1, fa28_2, fa28_3, aggV, aggZ, eql26, neq26, eql28, bin_eql_bool u4, q3] <;> with_reducible rfl))
      with_reducible refine Tl.brF ?_
      repeat (with_reducible apply Tl.val; focus (simp only [bnd_some, bin_add, bin_sub, bin_mul, bin_lss, bin_leq, bin_gtr, bin_geq, bin_eql, bin_neq, un_not, un_neg, goInt, gd_tt, gd_ff, gd_tf, gd_ft, gd_sk, gd3_tt, gd3_ff, gd3_tf, gd3_ft, gd3_sk, Option.map_some, lt_some, pick_t, pick_f, Nat.zero_add, Bool.not_true, Bool.not_false, Bool.true_and, Bool.false_and, Bool.and_true, Bool.and_false, cond_true, cond_false, beq_self_eq_true, Int.reduceBEq, decide_true, decide_false, ld2, ld3, ld9, ld26, ld28, fa26_0, fa26_1, fa26_2, fa28_0, fa28_1, fa28_2, fa28_3, aggV, aggZ, eql26, neq26, eql28, bin_eql_bool u4, w] <;> with_reducible rfl))
      exact fin h3 T3
end Go.Proofs.Ytpiibdegmimckaa.Sh
