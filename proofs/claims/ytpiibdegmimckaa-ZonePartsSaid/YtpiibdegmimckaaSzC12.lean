/- 'ZoneMay' comes to true: the arithmetic, and the whole. -/
import Derived.Test.YtpiibdegmimckaaSzC11
set_option linter.unusedVariables false
set_option linter.unusedSimpArgs false
namespace Go.Proofs.Ytpiibdegmimckaa.Sh
open Go Go.RowKit Go.Proofs.Ev Go.Lib

theorem lt_left {a x c : CellD} (h1 : a.cmp x ≤ 0) (h2 : x.cmp c < 0) : a.cmp c < 0 := by
  rcases Int.lt_or_le (a.cmp c) 0 with h | h
  · exact h
  · have h3 : c.cmp a ≤ 0 := by have := CellD.cmp_anti c a; omega
    have h4 := CellD.cmp_trans h3 h1
    have := CellD.cmp_anti x c
    omega
theorem gt_right {x b c : CellD} (h1 : x.cmp b ≤ 0) (h2 : x.cmp c > 0) : b.cmp c > 0 := by
  rcases Int.lt_or_le 0 (b.cmp c) with h | h
  · exact h
  · have h4 := CellD.cmp_trans h1 h
    omega
theorem ge_right {x b c : CellD} (h1 : x.cmp b ≤ 0) (h2 : x.cmp c ≥ 0) : b.cmp c ≥ 0 := by
  have h3 : c.cmp x ≤ 0 := by have := CellD.cmp_anti c x; omega
  have h4 := CellD.cmp_trans h3 h1
  have := CellD.cmp_anti b c
  omega
/-- What holds of a cell may hold of a zone. -/
theorem so_may {mn mx x c : CellD} {op : Int} (lo : mn.cmp x ≤ 0) (hi : x.cmp mx ≤ 0) (h : soB op (x.cmp c) = true) :
    (if op = 1 then decide (mn.cmp c ≤ 0) && decide (mx.cmp c ≥ 0) else if op = 2 then (mn.cmp c != 0) || (mx.cmp c != 0) else if op = 3 ∨ op = 4 then soB op (mn.cmp c) else soB op (mx.cmp c)) = true := by
  by_cases o1 : op = 1
  · subst o1
    have hx : x.cmp c = 0 := by simpa [soB] using h
    have e := (CellD.cmp_zero x c).1 hx
    subst e
    have := ge_right (c := x) hi (by omega)
    simp [lo, this]
  by_cases o2 : op = 2
  · subst o2
    have hx : ¬ x.cmp c = 0 := by simpa [soB] using h
    have : ¬ (mn.cmp c = 0 ∧ mx.cmp c = 0) := by
      rintro ⟨q1, q2⟩
      have e1 := (CellD.cmp_zero _ _).1 q1
      have e2 := (CellD.cmp_zero _ _).1 q2
      subst e1
      rw [e2] at hi
      exact hx ((CellD.cmp_zero _ _).2 (CellD.cmp_antisymm hi lo))
    by_cases q1 : mn.cmp c = 0
    · have q2 : ¬ mx.cmp c = 0 := fun q => this ⟨q1, q⟩
      have q2' : (mx.cmp c != 0) = true := by simpa using q2
      simp [q2']
    · have q1' : (mn.cmp c != 0) = true := by simpa using q1
      simp [q1']
  by_cases o3 : op = 3
  · subst o3
    have hx : x.cmp c < 0 := by simpa [soB] using h
    have := lt_left lo hx
    simp [soB, this]
  by_cases o4 : op = 4
  · subst o4
    have hx : x.cmp c ≤ 0 := by simpa [soB] using h
    have := CellD.cmp_trans lo hx
    simp [soB, this]
  by_cases o5 : op = 5
  · subst o5
    have hx : x.cmp c > 0 := by simpa [soB] using h
    have := gt_right hi hx
    simp [soB]
    omega
  by_cases o6 : op = 6
  · subst o6
    have hx : x.cmp c ≥ 0 := by simpa [soB] using h
    have := ge_right hi hx
    simp [soB]
    omega
  · simp [soB, o1, o2, o3, o4, o5, o6] at h
theorem mem_vals {l : List CellD} {x : CellD} : x ∈ vals l ↔ x ∈ l ∧ x.k ≠ 0 := by simp [vals]
theorem may_of_is {l : List CellD} {kind op : Int} {c x : CellD} (hl : l.length ≤ 60) (hall : ∀ x ∈ l, goodC kind x) (hx : x ∈ l) (h : isB op x c = true) : mayB (ofZ l) op c = true := by
  rw [ofZ_rep l (by omega)]
  unfold isB at h
  simp only [Bool.and_eq_true, decide_eq_true_eq] at h
  obtain ⟨h1, h2, h3⟩ := h
  have hv : x ∈ vals l := mem_vals.2 ⟨hx, h2⟩
  have hne : vals l ≠ [] := by intro q; rw [q] at hv; cases hv
  obtain ⟨m1, m2⟩ := mnL_spec hne
  obtain ⟨x1, x2⟩ := mxL_spec hne
  have hpos : 0 < (vals l).length := List.length_pos_iff.2 hne
  have hkind : ∀ y ∈ vals l, y.k = kind := fun y hy => by
    obtain ⟨p1, p2⟩ := mem_vals.1 hy
    exact ((hall y p1).1).resolve_left p2
  unfold mayB repZ
  simp only
  rw [if_neg (by
    rintro (q | q | q)
    · exact h2 (h1.trans q)
    · omega
    · exact q (by rw [← h1, hkind x hv, hkind _ m1]))]
  exact so_may (m2 x hv) (x2 x hv) h3
theorem in_zone {l : List CellD} {x : CellD} (hl : l.length ≤ 60) (hx : x ∈ l) (h : x.k ≠ 0) : ¬ x.cmp (ofZ l).mn < 0 ∧ ¬ x.cmp (ofZ l).mx > 0 := by
  rw [ofZ_rep l (by omega)]
  have hv : x ∈ vals l := mem_vals.2 ⟨hx, h⟩
  have hne : vals l ≠ [] := by intro q; rw [q] at hv; cases hv
  have m2 := (mnL_spec hne).2 x hv
  have x2 := (mxL_spec hne).2 x hv
  have := CellD.cmp_anti x (mnL (vals l))
  unfold repZ
  simp only
  constructor <;> omega
theorem zone_ok {l : List CellD} {kind : Int} (hl : l.length ≤ 60) (hall : ∀ x ∈ l, goodC kind x) :
    (ofZ l).cnt = l.length ∧ 0 ≤ (ofZ l).nul ∧ (ofZ l).nul ≤ (ofZ l).cnt ∧
      ((ofZ l).nul = (ofZ l).cnt ∧ (ofZ l).mn = c0 ∧ (ofZ l).mx = c0 ∨ (ofZ l).nul ≠ (ofZ l).cnt ∧ (ofZ l).mn.k = kind ∧ (ofZ l).mx.k = kind ∧ cellE (ofZ l).mn = 0 ∧ cellE (ofZ l).mx = 0 ∧ (ofZ l).mn.cmp (ofZ l).mx ≤ 0) := by
  rw [ofZ_rep l (by omega)]
  have hle := vals_le l
  unfold repZ
  simp only
  refine ⟨trivial, by omega, by omega, ?_⟩
  by_cases hne : vals l = []
  · exact .inl ⟨by rw [hne]; simp, by rw [hne]; rfl, by rw [hne]; rfl⟩
  · obtain ⟨m1, m2⟩ := mnL_spec hne
    obtain ⟨x1, x2⟩ := mxL_spec hne
    have hpos : 0 < (vals l).length := List.length_pos_iff.2 hne
    obtain ⟨p1, p2⟩ := mem_vals.1 m1
    obtain ⟨q1, q2⟩ := mem_vals.1 x1
    exact .inr ⟨by omega, ((hall _ p1).1).resolve_left p2, ((hall _ q1).1).resolve_left q2, (hall _ p1).2, (hall _ q1).2, m2 _ x1⟩
theorem f21c {k : Nat} (z : ZoneD) (kind : Int) (h : AH) (h1 : 1 ≤ kind) (h3 : kind ≤ 3) (p0 : 0 ≤ z.nul) (p1 : z.nul ≤ z.cnt)
    (hz : (z.nul = z.cnt ∧ z.mn = c0 ∧ z.mx = c0) ∨ (z.nul ≠ z.cnt ∧ z.mn.k = kind ∧ z.mx.k = kind ∧ cellE z.mn = 0 ∧ cellE z.mx = 0 ∧ z.mn.cmp z.mx ≤ 0)) :
    Tl (eInv env (k + 13) (.func 21) #[] #[zv z, .int .i64 kind] h) fun r => r.1 = .int .i64 0 ∧ Grow h r.2 := by
  rw [F21_call]; exact f21 z kind h h1 h3 p0 p1 hz
theorem f7 {k : Nat} {h : AH} {v : Value} {l : List CellD} (S : Cells h v l) (kind op : Int) (c : CellD) :
    Tl (F7 (eInv env (k + 100)) (k + 100) (.int .i64 kind) v (.int .i64 op) c.v h) fun r => r.1 = .bool true := by
  unfold F7
  refine Tl.box (Sta.init h) rfl is26 fun b7 h1 S1 _ => ?_
  have S1 : Sta h.n h h1 [cb b7 c] := S1
  obtain ⟨bl, el, hl⟩ := f9c (k := k + 98) (S.grow S1.done) (by omega)
  repeat (with_reducible apply Tl.val; focus (simp only [bnd_some, bin_add, bin_sub, bin_mul, bin_lss, bin_leq, bin_gtr, bin_geq, bin_eql, bin_neq, un_not, un_neg, goInt, gd_tt, gd_ff, gd_tf, gd_ft, gd_sk, gd3_tt, gd3_ff, gd3_tf, gd3_ft, gd3_sk, Option.map_some, lt_some, pick_t, pick_f, Nat.zero_add, Bool.not_true, Bool.not_false, Bool.true_and, Bool.false_and, Bool.and_true, Bool.and_false, cond_true, cond_false, beq_self_eq_true, Int.reduceBEq, decide_true, decide_false, ld2, ld3, ld9, ld26, ld28, fa26_0, fa26_1, fa26_2, fa28_0, fa28_1, fa28_2, fa28_3, aggV, aggZ, eql26, neq26, eql28, bin_eql_bool u4, lives_call] <;> with_reducible rfl))
  with_reducible refine Tl.brF ?_
  cases bl
  · repeat (with_reducible apply Tl.val; focus (simp only [bnd_some, bin_add, bin_sub, bin_mul, bin_lss, bin_leq, bin_gtr, bin_geq, bin_eql, bin_neq, un_not, un_neg, goInt, gd_tt, gd_ff, gd_tf, gd_ft, gd_sk, gd3_tt, gd3_ff, gd3_tf, gd3_ft, gd3_sk, Option.map_some, lt_some, pick_t, pick_f, Nat.zero_add, Bool.not_true, Bool.not_false, Bool.true_and, Bool.false_and, Bool.and_true, Bool.and_false, cond_true, cond_false, beq_self_eq_true, Int.reduceBEq, decide_true, decide_false, ld2, ld3, ld9, ld26, ld28, fa26_0, fa26_1, fa26_2, fa28_0, fa28_1, fa28_2, fa28_3, aggV, aggZ, eql26, neq26, eql28, bin_eql_bool u4, el] <;> with_reducible rfl))
    with_reducible refine Tl.brT ?_
    exact ⟨_, rfl, rfl⟩
  have hl := hl rfl
  repeat (with_reducible apply Tl.val; focus (simp only [bnd_some, bin_add, bin_sub, bin_mul, bin_lss, bin_leq, bin_gtr, bin_geq, bin_eql, bin_neq, un_not, un_neg, goInt, gd_tt, gd_ff, gd_tf, gd_ft, gd_sk, gd3_tt, gd3_ff, gd3_tf, gd3_ft, gd3_sk, Option.map_some, lt_some, pick_t, pick_f, Nat.zero_add, Bool.not_true, Bool.not_false, Bool.true_and, Bool.false_and, Bool.and_true, Bool.and_false, cond_true, cond_false, beq_self_eq_true, Int.reduceBEq, decide_true, decide_false, ld2, ld3, ld9, ld26, ld28, fa26_0, fa26_1, fa26_2, fa28_0, fa28_1, fa28_2, fa28_3, aggV, aggZ, eql26, neq26, eql28, bin_eql_bool u4, el] <;> with_reducible rfl))
  with_reducible refine Tl.brF ?_
  refine f7_loop1 (k := k) (i := 0) S hl l.length (by omega) (by omega) S1 (fun h2 y S2 hall => ?_) fun h2 => ⟨_, rfl, rfl⟩
  rw [List.drop_zero] at hall
  obtain ⟨z1, z2, z3, z4⟩ := zone_ok hl hall
  with_reducible refine Tl.call S2 (f10c (k := k + 87) (S.grow S2.done) (by omega) (by omega)) fun h3 S3 _ => ?_
  refine Tl.alloc S3 ze28 rfl fun b10 h4 S4 _ => ?_
  refine Tl.store S4 0 rfl sz28 rfl rfl (of_decide_eq_true rfl) fun h5 S5 => ?_
  have S5 : Sta h.n h h5 [zb b10 (ofZ l), cb b7 c] := S5
  obtain ⟨w5, _⟩ := z_at S5 0 rfl
  have rc5 := row_at (i := 1) S5 rfl
  unfold pt
  repeat (with_reducible apply Tl.val; focus (simp only [bnd_some, bin_add, bin_sub, bin_mul, bin_lss, bin_leq, bin_gtr, bin_geq, bin_eql, bin_neq, un_not, un_neg, goInt, gd_tt, gd_ff, gd_tf, gd_ft, gd_sk, gd3_tt, gd3_ff, gd3_tf, gd3_ft, gd3_sk, Option.map_some, lt_some, pick_t, pick_f, Nat.zero_add, Bool.not_true, Bool.not_false, Bool.true_and, Bool.false_and, Bool.and_true, Bool.and_false, cond_true, cond_false, beq_self_eq_true, Int.reduceBEq, decide_true, decide_false, ld2, ld3, ld9, ld26, ld28, fa26_0, fa26_1, fa26_2, fa28_0, fa28_1, fa28_2, fa28_3, aggV, aggZ, eql26, neq26, eql28, bin_eql_bool u4, w5, rc5] <;> with_reducible rfl))
  with_reducible refine Tl.call S5 (f14c (k := k + 79) (ofZ l) op c h5) fun h6 S6 _ => ?_
  refine f7_loop2 (k := k) (i := 0) S hl (fun x hx hi => may_of_is hl hall hx hi) (fun x hx hi => in_zone hl hx hi) l.length (by omega) (by omega) S6 fun h7 y y' S7 => ?_
  obtain ⟨w7, cn7, _⟩ := z_at S7 0 rfl
  have hlen : ∀ h', pLen Try.prog #[22] v h' = some (.int .i64 l.length) := fun h' => S.len
  have hcnt : ((ofZ l).cnt == (l.length : Int)) = true := by simpa using z1
  unfold pt
  cases q1 : decide (kind < 1)
  · cases q2 : decide (kind > 3)
    · repeat (with_reducible apply Tl.val; focus (simp only [bnd_some, bin_add, bin_sub, bin_mul, bin_lss, bin_leq, bin_gtr, bin_geq, bin_eql, bin_neq, un_not, un_neg, goInt, gd_tt, gd_ff, gd_tf, gd_ft, gd_sk, gd3_tt, gd3_ff, gd3_tf, gd3_ft, gd3_sk, Option.map_some, lt_some, pick_t, pick_f, Nat.zero_add, Bool.not_true, Bool.not_false, Bool.true_and, Bool.false_and, Bool.and_true, Bool.and_false, cond_true, cond_false, beq_self_eq_true, Int.reduceBEq, decide_true, decide_false, ld2, ld3, ld9, ld26, ld28, fa26_0, fa26_1, fa26_2, fa28_0, fa28_1, fa28_2, fa28_3, aggV, aggZ, eql26, neq26, eql28, bin_eql_bool u4, cn7, hlen, hcnt, q1, q2, w7] <;> with_reducible rfl))
      with_reducible refine Tl.gd_on ?_
      with_reducible refine Tl.call S7 (f21c (k := k + 87) (ofZ l) kind h7 (by simp at q1; omega) (by simp at q2; omega) z2 z3 z4) fun h8 S8 _ => ?_
      repeat (with_reducible apply Tl.val; focus (simp only [bnd_some, bin_add, bin_sub, bin_mul, bin_lss, bin_leq, bin_gtr, bin_geq, bin_eql, bin_neq, un_not, un_neg, goInt, gd_tt, gd_ff, gd_tf, gd_ft, gd_sk, gd3_tt, gd3_ff, gd3_tf, gd3_ft, gd3_sk, Option.map_some, lt_some, pick_t, pick_f, Nat.zero_add, Bool.not_true, Bool.not_false, Bool.true_and, Bool.false_and, Bool.and_true, Bool.and_false, cond_true, cond_false, beq_self_eq_true, Int.reduceBEq, decide_true, decide_false, ld2, ld3, ld9, ld26, ld28, fa26_0, fa26_1, fa26_2, fa28_0, fa28_1, fa28_2, fa28_3, aggV, aggZ, eql26, neq26, eql28, bin_eql_bool u4] <;> with_reducible rfl))
      exact ⟨_, rfl, rfl⟩
    · repeat (with_reducible apply Tl.val; focus (simp only [bnd_some, bin_add, bin_sub, bin_mul, bin_lss, bin_leq, bin_gtr, bin_geq, bin_eql, bin_neq, un_not, un_neg, goInt, gd_tt, gd_ff, gd_tf, gd_ft, gd_sk, gd3_tt, gd3_ff, gd3_tf, gd3_ft, gd3_sk, Option.map_some, lt_some, pick_t, pick_f, Nat.zero_add, Bool.not_true, Bool.not_false, Bool.true_and, Bool.false_and, Bool.and_true, Bool.and_false, cond_true, cond_false, beq_self_eq_true, Int.reduceBEq, decide_true, decide_false, ld2, ld3, ld9, ld26, ld28, fa26_0, fa26_1, fa26_2, fa28_0, fa28_1, fa28_2, fa28_3, aggV, aggZ, eql26, neq26, eql28, bin_eql_bool u4, cn7, hlen, hcnt, q1, q2, w7] <;> with_reducible rfl))
      exact ⟨_, rfl, rfl⟩
  · repeat (with_reducible apply Tl.val; focus (simp only [bnd_some, bin_add, bin_sub, bin_mul, bin_lss, bin_leq, bin_gtr, bin_geq, bin_eql, bin_neq, un_not, un_neg, goInt, gd_tt, gd_ff, gd_tf, gd_ft, gd_sk, gd3_tt, gd3_ff, gd3_tf, gd3_ft, gd3_sk, Option.map_some, lt_some, pick_t, pick_f, Nat.zero_add, Bool.not_true, Bool.not_false, Bool.true_and, Bool.false_and, Bool.and_true, Bool.and_false, cond_true, cond_false, beq_self_eq_true, Int.reduceBEq, decide_true, decide_false, ld2, ld3, ld9, ld26, ld28, fa26_0, fa26_1, fa26_2, fa28_0, fa28_1, fa28_2, fa28_3, aggV, aggZ, eql26, neq26, eql28, bin_eql_bool u4, cn7, hlen, hcnt, q1, w7] <;> with_reducible rfl))
    exact ⟨_, rfl, rfl⟩
end Go.Proofs.Ytpiibdegmimckaa.Sh
