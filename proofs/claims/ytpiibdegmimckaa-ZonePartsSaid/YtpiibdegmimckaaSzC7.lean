/- What the functions of the zone's package come to: 'Of'; what the law bounds and copies. -/
import Derived.Test.YtpiibdegmimckaaSzC6
import Derived.Test.YtpiibdegmimckaaEv27
set_option linter.unusedVariables false
set_option linter.unusedSimpArgs false
namespace Go.Proofs.Ytpiibdegmimckaa.Sh
open Go Go.RowKit Go.Proofs.Ev Go.Lib

def crow (c : CellD) : List Value := [.int .i64 c.k, .int .i64 c.i, .string c.s]
def Cells (h : AH) (v : Value) (l : List CellD) : Prop := SlV Try.prog h v 3 (l.map crow)
theorem Cells.at_ {h : AH} {v : Value} {l : List CellD} (S : Cells h v l) {i : Nat} {c : CellD} (hi : l[i]? = some c) :
    ∃ b o, pIndexAddr Try.prog 22 v (.int .i64 i) = some (.pointer (some ⟨b, o, none⟩)) ∧ h.row b o 3 = some [.int .i64 c.k, .int .i64 c.i, .string c.s] ∧ h.cell b o = some (.int .i64 c.k) ∧ h.cell b (o + 2) = some (.string c.s) := by
  obtain ⟨b, o, h1, h2⟩ := SlV.at_ S (t := 22) (k := .i64) (i := i) (r := crow c) (by simp [hi]) u22 sz26
  exact ⟨b, o, h1, h2, Ev.cell_of_row (j := 0) h2 (by omega), Ev.cell_of_row (j := 2) h2 (by omega)⟩
theorem Cells.len {h h' : AH} {v : Value} {l : List CellD} (S : Cells h v l) : pLen Try.prog #[22] v h' = some (.int .i64 l.length) := by
  have := SlV.len S (t := 22) u22 (h' := h')
  simpa using this
theorem Cells.grow {h h' : AH} {v : Value} {l : List CellD} (S : Cells h v l) (g : Grow h h') : Cells h' v l := SlV.grow S g
theorem f10_loop {β : Type} {k : Nat} {Q : β → Prop} {h0 : AH} {b2 : Nat} {v : Value} {l : List CellD} (S : Cells h0 v l) (hl : l.length ≤ 2 ^ 40) {ke0 : Value → Value → Value → Value → Value → AH → Option β} (n : Nat) :
    ∀ {i j : Nat} {z : ZoneD} {h : AH}, i + n = l.length → n < j → Sta h0.n h0 h [zb b2 z] →
      (∀ h' y7 y8, Sta h0.n h0 h' [zb b2 ((l.drop i).foldl (fun z c => joinZ z (oneZ c)) z)] → Tl (ke0 (pt b2) v (.int .i64 l.length) y7 y8 h') Q) →
      Tl (F10_lrlr (eInv env (k + 12)) (k + 12) j (pt b2) v (.int .i64 l.length) (.int .i64 i) h ke0) Q := by
  induction n with
  | zero =>
    intro i j z h hi hj T hk
    obtain ⟨j, rfl⟩ : ∃ q, j = q + 1 := ⟨j - 1, by omega⟩
    simp only [F10_lrlr]
    have e : decide ((i : Int) < (l.length : Int)) = false := by simp; omega
    repeat (with_reducible apply Tl.val; focus (simp only [bnd_some, bin_add, bin_sub, bin_mul, bin_lss, bin_leq, bin_gtr, bin_geq, bin_eql, bin_neq, un_not, un_neg, goInt, gd_tt, gd_ff, gd_tf, gd_ft, gd_sk, gd3_tt, gd3_ff, gd3_tf, gd3_ft, gd3_sk, Option.map_some, lt_some, pick_t, pick_f, Nat.zero_add, Bool.not_true, Bool.not_false, Bool.true_and, Bool.false_and, Bool.and_true, Bool.and_false, cond_true, cond_false, beq_self_eq_true, Int.reduceBEq, decide_true, decide_false, ld2, ld3, ld9, ld26, ld28, fa26_0, fa26_1, fa26_2, fa28_0, fa28_1, fa28_2, fa28_3, aggV, aggZ, eql26, neq26, bin_eql_bool u4, e] <;> with_reducible rfl))
    with_reducible refine Tl.brF ?_
    refine hk _ _ _ ?_
    rw [List.drop_eq_nil_of_le (by omega)]
    exact T
  | succ n ih =>
    intro i j z h hi hj T hk
    obtain ⟨j, rfl⟩ : ∃ q, j = q + 1 := ⟨j - 1, by omega⟩
    have hlt : i < l.length := by omega
    obtain ⟨c, hc⟩ : ∃ c, l[i]? = some c := ⟨_, List.getElem?_eq_getElem hlt⟩
    obtain ⟨b, o, hx, hr, _, _⟩ := (S.grow T.done).at_ hc
    simp only [F10_lrlr]
    have e : decide ((i : Int) < (l.length : Int)) = true := by simp; omega
    repeat (with_reducible apply Tl.val; focus (simp only [bnd_some, bin_add, bin_sub, bin_mul, bin_lss, bin_leq, bin_gtr, bin_geq, bin_eql, bin_neq, un_not, un_neg, goInt, gd_tt, gd_ff, gd_tf, gd_ft, gd_sk, gd3_tt, gd3_ff, gd3_tf, gd3_ft, gd3_sk, Option.map_some, lt_some, pick_t, pick_f, Nat.zero_add, Bool.not_true, Bool.not_false, Bool.true_and, Bool.false_and, Bool.and_true, Bool.and_false, cond_true, cond_false, beq_self_eq_true, Int.reduceBEq, decide_true, decide_false, ld2, ld3, ld9, ld26, ld28, fa26_0, fa26_1, fa26_2, fa28_0, fa28_1, fa28_2, fa28_3, aggV, aggZ, eql26, neq26, bin_eql_bool u4, e] <;> with_reducible rfl))
    with_reducible refine Tl.brT ?_
    repeat (with_reducible apply Tl.val; focus (simp only [bnd_some, bin_add, bin_sub, bin_mul, bin_lss, bin_leq, bin_gtr, bin_geq, bin_eql, bin_neq, un_not, un_neg, goInt, gd_tt, gd_ff, gd_tf, gd_ft, gd_sk, gd3_tt, gd3_ff, gd3_tf, gd3_ft, gd3_sk, Option.map_some, lt_some, pick_t, pick_f, Nat.zero_add, Bool.not_true, Bool.not_false, Bool.true_and, Bool.false_and, Bool.and_true, Bool.and_false, cond_true, cond_false, beq_self_eq_true, Int.reduceBEq, decide_true, decide_false, ld2, ld3, ld9, ld26, ld28, fa26_0, fa26_1, fa26_2, fa28_0, fa28_1, fa28_2, fa28_3, aggV, aggZ, eql26, neq26, bin_eql_bool u4, hx, hr] <;> with_reducible rfl))
    refine Tl.alloc T ze26 rfl fun b4 h1 T1 _ => ?_
    refine Tl.store T1 0 rfl sz26 rfl rfl (of_decide_eq_true rfl) fun h2 T2 => ?_
    have T2 : Sta h0.n h0 h2 [cb b4 c, zb b2 z] := T2
    have r4 := row_at (i := 0) T2 rfl
    obtain ⟨r2, _⟩ := z_at T2 1 rfl
    unfold pt
    repeat (with_reducible apply Tl.val; focus (simp only [bnd_some, bin_add, bin_sub, bin_mul, bin_lss, bin_leq, bin_gtr, bin_geq, bin_eql, bin_neq, un_not, un_neg, goInt, gd_tt, gd_ff, gd_tf, gd_ft, gd_sk, gd3_tt, gd3_ff, gd3_tf, gd3_ft, gd3_sk, Option.map_some, lt_some, pick_t, pick_f, Nat.zero_add, Bool.not_true, Bool.not_false, Bool.true_and, Bool.false_and, Bool.and_true, Bool.and_false, cond_true, cond_false, beq_self_eq_true, Int.reduceBEq, decide_true, decide_false, ld2, ld3, ld9, ld26, ld28, fa26_0, fa26_1, fa26_2, fa28_0, fa28_1, fa28_2, fa28_3, aggV, aggZ, eql26, neq26, bin_eql_bool u4, r4, r2] <;> with_reducible rfl))
    with_reducible refine Tl.call T2 (f23c (k := k + 11) c h2) fun h3 T3 _ => ?_
    with_reducible refine Tl.call T3 (f11c (k := k) z (oneZ c) h3) fun h4 T4 _ => ?_
    obtain ⟨r3, _⟩ := z_at T3 1 rfl
    refine Tl.store T4 1 rfl sz28 rfl rfl (of_decide_eq_true rfl) fun h5 T5 => ?_
    have T5 : Sta h0.n h0 h5 [cb b4 c, zb b2 (joinZ z (oneZ c))] := T5
    with_reducible refine Tl.chk ?_ ?_
    · simp only [ld28, r2, r3, Option.map_some, aggZ, sameO_some, sameZ, Bool.and_self, Bool.not_true, Bool.or_true, Bool.true_and, Bool.false_or]
    have w : IntKind.i64.wrap ((i : Int) + 1) = ((i + 1 : Nat) : Int) := by rw [wrap_i64 (by omega) (by omega)]; omega
    repeat (with_reducible apply Tl.val; focus (simp only [bnd_some, bin_add, bin_sub, bin_mul, bin_lss, bin_leq, bin_gtr, bin_geq, bin_eql, bin_neq, un_not, un_neg, goInt, gd_tt, gd_ff, gd_tf, gd_ft, gd_sk, gd3_tt, gd3_ff, gd3_tf, gd3_ft, gd3_sk, Option.map_some, lt_some, pick_t, pick_f, Nat.zero_add, Bool.not_true, Bool.not_false, Bool.true_and, Bool.false_and, Bool.and_true, Bool.and_false, cond_true, cond_false, beq_self_eq_true, Int.reduceBEq, decide_true, decide_false, ld2, ld3, ld9, ld26, ld28, fa26_0, fa26_1, fa26_2, fa28_0, fa28_1, fa28_2, fa28_3, aggV, aggZ, eql26, neq26, bin_eql_bool u4, w] <;> with_reducible rfl))
    refine ih (by omega) (by omega) T5.drop fun h' y7 y8 T' => ?_
    refine hk h' y7 y8 ?_
    have hd : l.drop i = c :: l.drop (i + 1) := by
      rw [List.drop_eq_getElem_cons hlt]
      rw [List.getElem?_eq_getElem hlt] at hc
      cases hc; rfl
    rw [hd]
    exact T'
/-- 'Of'. -/
theorem f10 {k : Nat} {h : AH} {v : Value} {l : List CellD} (S : Cells h v l) (hl : l.length ≤ 2 ^ 40) (hk : l.length < k + 12) : Tl (F10 (eInv env (k + 12)) (k + 12) v h) fun r => r.1 = zv (ofZ l) ∧ Grow h r.2 := by
  unfold F10
  refine Tl.alloc (Sta.init h) ze28 rfl fun b2 h1 S1 _ => ?_
  have S1 : Sta h.n h h1 [zb b2 z0] := S1
  have hlen : ∀ h', pLen Try.prog #[22] v h' = some (.int .i64 l.length) := fun h' => S.len
  repeat (with_reducible apply Tl.val; focus (simp only [bnd_some, bin_add, bin_sub, bin_mul, bin_lss, bin_leq, bin_gtr, bin_geq, bin_eql, bin_neq, un_not, un_neg, goInt, gd_tt, gd_ff, gd_tf, gd_ft, gd_sk, gd3_tt, gd3_ff, gd3_tf, gd3_ft, gd3_sk, Option.map_some, lt_some, pick_t, pick_f, Nat.zero_add, Bool.not_true, Bool.not_false, Bool.true_and, Bool.false_and, Bool.and_true, Bool.and_false, cond_true, cond_false, beq_self_eq_true, Int.reduceBEq, decide_true, decide_false, ld2, ld3, ld9, ld26, ld28, fa26_0, fa26_1, fa26_2, fa28_0, fa28_1, fa28_2, fa28_3, aggV, aggZ, eql26, neq26, bin_eql_bool u4, hlen] <;> with_reducible rfl))
  refine f10_loop (i := 0) (z := z0) S hl l.length (by omega) hk S1 fun h2 y7 y8 S2 => ?_
  rw [List.drop_zero] at S2
  obtain ⟨r1, _⟩ := z_at S2 0 rfl
  unfold pt
  repeat (with_reducible apply Tl.val; focus (simp only [bnd_some, bin_add, bin_sub, bin_mul, bin_lss, bin_leq, bin_gtr, bin_geq, bin_eql, bin_neq, un_not, un_neg, goInt, gd_tt, gd_ff, gd_tf, gd_ft, gd_sk, gd3_tt, gd3_ff, gd3_tf, gd3_ft, gd3_sk, Option.map_some, lt_some, pick_t, pick_f, Nat.zero_add, Bool.not_true, Bool.not_false, Bool.true_and, Bool.false_and, Bool.and_true, Bool.and_false, cond_true, cond_false, beq_self_eq_true, Int.reduceBEq, decide_true, decide_false, ld2, ld3, ld9, ld26, ld28, fa26_0, fa26_1, fa26_2, fa28_0, fa28_1, fa28_2, fa28_3, aggV, aggZ, eql26, neq26, bin_eql_bool u4, r1] <;> with_reducible rfl))
  refine Tl.store S2 0 rfl sz28 rfl rfl (of_decide_eq_true rfl) fun h3 S3 => ?_
  have S3 : Sta h.n h h3 [zb b2 (ofZ l)] := S3
  obtain ⟨r3, _⟩ := z_at S3 0 rfl
  repeat (with_reducible apply Tl.val; focus (simp only [bnd_some, bin_add, bin_sub, bin_mul, bin_lss, bin_leq, bin_gtr, bin_geq, bin_eql, bin_neq, un_not, un_neg, goInt, gd_tt, gd_ff, gd_tf, gd_ft, gd_sk, gd3_tt, gd3_ff, gd3_tf, gd3_ft, gd3_sk, Option.map_some, lt_some, pick_t, pick_f, Nat.zero_add, Bool.not_true, Bool.not_false, Bool.true_and, Bool.false_and, Bool.and_true, Bool.and_false, cond_true, cond_false, beq_self_eq_true, Int.reduceBEq, decide_true, decide_false, ld2, ld3, ld9, ld26, ld28, fa26_0, fa26_1, fa26_2, fa28_0, fa28_1, fa28_2, fa28_3, aggV, aggZ, eql26, neq26, bin_eql_bool u4, r3] <;> with_reducible rfl))
  exact ⟨_, rfl, rfl, S3.done⟩
theorem f10c {k : Nat} {h : AH} {v : Value} {l : List CellD} (S : Cells h v l) (hl : l.length ≤ 2 ^ 40) (hk : l.length < k + 12) : Tl (eInv env (k + 13) (.func 10) #[] #[v] h) fun r => r.1 = zv (ofZ l) ∧ Grow h r.2 := by
  rw [F10_call]; exact f10 S hl hk
/-- 'LightCells': a bound on how many there are. -/
theorem f22_loop {β : Type} {k : Nat} {Q : β → Prop} {h : AH} {v : Value} {bm : Int} {l : List CellD} (S : Cells h v l) (hl : l.length ≤ 2 ^ 40) {ke0 : Value → Value → Value → Value → Value → AH → Option β} {kr : Value → AH → Option β}
    (hk : ∀ y7 y8 y16, Tl (ke0 v (.int .i64 bm) y7 y8 y16 h) Q) (hr : Tl (kr (.bool false) h) Q) (n : Nat) :
    ∀ {i j : Nat} {s : Int}, i + n = l.length → n < j → Tl (F22_lrlrrr (eInv env k) k j v (.int .i64 bm) (.int .i64 s) (.int .i64 i) h ke0 kr) Q := by
  induction n with
  | zero =>
    intro i j s hi hj
    obtain ⟨j, rfl⟩ : ∃ q, j = q + 1 := ⟨j - 1, by omega⟩
    simp only [F22_lrlrrr]
    have e : decide ((i : Int) < (l.length : Int)) = false := by simp; omega
    have hlen : ∀ h', pLen Try.prog #[22] v h' = some (.int .i64 l.length) := fun h' => S.len
    repeat (with_reducible apply Tl.val; focus (simp only [bnd_some, bin_add, bin_sub, bin_mul, bin_lss, bin_leq, bin_gtr, bin_geq, bin_eql, bin_neq, un_not, un_neg, goInt, gd_tt, gd_ff, gd_tf, gd_ft, gd_sk, gd3_tt, gd3_ff, gd3_tf, gd3_ft, gd3_sk, Option.map_some, lt_some, pick_t, pick_f, Nat.zero_add, Bool.not_true, Bool.not_false, Bool.true_and, Bool.false_and, Bool.and_true, Bool.and_false, cond_true, cond_false, beq_self_eq_true, Int.reduceBEq, decide_true, decide_false, ld2, ld3, ld9, ld26, ld28, fa26_0, fa26_1, fa26_2, fa28_0, fa28_1, fa28_2, fa28_3, aggV, aggZ, eql26, neq26, bin_eql_bool u4, hlen, e] <;> with_reducible rfl))
    with_reducible refine Tl.brF ?_
    exact hk _ _ _
  | succ n ih =>
    intro i j s hi hj
    obtain ⟨j, rfl⟩ : ∃ q, j = q + 1 := ⟨j - 1, by omega⟩
    have hlt : i < l.length := by omega
    obtain ⟨c, hc⟩ : ∃ c, l[i]? = some c := ⟨_, List.getElem?_eq_getElem hlt⟩
    obtain ⟨b, o, hx, _, _, h2⟩ := S.at_ hc
    simp only [F22_lrlrrr]
    have e : decide ((i : Int) < (l.length : Int)) = true := by simp; omega
    have hlen : ∀ h', pLen Try.prog #[22] v h' = some (.int .i64 l.length) := fun h' => S.len
    have w : IntKind.i64.wrap ((i : Int) + 1) = ((i + 1 : Nat) : Int) := by rw [wrap_i64 (by omega) (by omega)]; omega
    repeat (with_reducible apply Tl.val; focus (simp only [bnd_some, bin_add, bin_sub, bin_mul, bin_lss, bin_leq, bin_gtr, bin_geq, bin_eql, bin_neq, un_not, un_neg, goInt, gd_tt, gd_ff, gd_tf, gd_ft, gd_sk, gd3_tt, gd3_ff, gd3_tf, gd3_ft, gd3_sk, Option.map_some, lt_some, pick_t, pick_f, Nat.zero_add, Bool.not_true, Bool.not_false, Bool.true_and, Bool.false_and, Bool.and_true, Bool.and_false, cond_true, cond_false, beq_self_eq_true, Int.reduceBEq, decide_true, decide_false, ld2, ld3, ld9, ld26, ld28, fa26_0, fa26_1, fa26_2, fa28_0, fa28_1, fa28_2, fa28_3, aggV, aggZ, eql26, neq26, bin_eql_bool u4, hlen, e] <;> with_reducible rfl))
    with_reducible refine Tl.brT ?_
    repeat (with_reducible apply Tl.val; focus (simp only [bnd_some, bin_add, bin_sub, bin_mul, bin_lss, bin_leq, bin_gtr, bin_geq, bin_eql, bin_neq, un_not, un_neg, goInt, gd_tt, gd_ff, gd_tf, gd_ft, gd_sk, gd3_tt, gd3_ff, gd3_tf, gd3_ft, gd3_sk, Option.map_some, lt_some, pick_t, pick_f, Nat.zero_add, Bool.not_true, Bool.not_false, Bool.true_and, Bool.false_and, Bool.and_true, Bool.and_false, cond_true, cond_false, beq_self_eq_true, Int.reduceBEq, decide_true, decide_false, ld2, ld3, ld9, ld26, ld28, fa26_0, fa26_1, fa26_2, fa28_0, fa28_1, fa28_2, fa28_3, aggV, aggZ, eql26, neq26, bin_eql_bool u4, hx, h2, len_string u9] <;> with_reducible rfl))
    cases q : decide (IntKind.i64.wrap (s + ((c.s.size : Nat) : Int)) > bm)
    · repeat (with_reducible apply Tl.val; focus (simp only [bnd_some, bin_add, bin_sub, bin_mul, bin_lss, bin_leq, bin_gtr, bin_geq, bin_eql, bin_neq, un_not, un_neg, goInt, gd_tt, gd_ff, gd_tf, gd_ft, gd_sk, gd3_tt, gd3_ff, gd3_tf, gd3_ft, gd3_sk, Option.map_some, lt_some, pick_t, pick_f, Nat.zero_add, Bool.not_true, Bool.not_false, Bool.true_and, Bool.false_and, Bool.and_true, Bool.and_false, cond_true, cond_false, beq_self_eq_true, Int.reduceBEq, decide_true, decide_false, ld2, ld3, ld9, ld26, ld28, fa26_0, fa26_1, fa26_2, fa28_0, fa28_1, fa28_2, fa28_3, aggV, aggZ, eql26, neq26, bin_eql_bool u4, q] <;> with_reducible rfl))
      with_reducible refine Tl.brF ?_
      repeat (with_reducible apply Tl.val; focus (simp only [bnd_some, bin_add, bin_sub, bin_mul, bin_lss, bin_leq, bin_gtr, bin_geq, bin_eql, bin_neq, un_not, un_neg, goInt, gd_tt, gd_ff, gd_tf, gd_ft, gd_sk, gd3_tt, gd3_ff, gd3_tf, gd3_ft, gd3_sk, Option.map_some, lt_some, pick_t, pick_f, Nat.zero_add, Bool.not_true, Bool.not_false, Bool.true_and, Bool.false_and, Bool.and_true, Bool.and_false, cond_true, cond_false, beq_self_eq_true, Int.reduceBEq, decide_true, decide_false, ld2, ld3, ld9, ld26, ld28, fa26_0, fa26_1, fa26_2, fa28_0, fa28_1, fa28_2, fa28_3, aggV, aggZ, eql26, neq26, bin_eql_bool u4, w] <;> with_reducible rfl))
      exact ih (by omega) (by omega)
    · repeat (with_reducible apply Tl.val; focus (simp only [bnd_some, bin_add, bin_sub, bin_mul, bin_lss, bin_leq, bin_gtr, bin_geq, bin_eql, bin_neq, un_not, un_neg, goInt, gd_tt, gd_ff, gd_tf, gd_ft, gd_sk, gd3_tt, gd3_ff, gd3_tf, gd3_ft, gd3_sk, Option.map_some, lt_some, pick_t, pick_f, Nat.zero_add, Bool.not_true, Bool.not_false, Bool.true_and, Bool.false_and, Bool.and_true, Bool.and_false, cond_true, cond_false, beq_self_eq_true, Int.reduceBEq, decide_true, decide_false, ld2, ld3, ld9, ld26, ld28, fa26_0, fa26_1, fa26_2, fa28_0, fa28_1, fa28_2, fa28_3, aggV, aggZ, eql26, neq26, bin_eql_bool u4, q] <;> with_reducible rfl))
      with_reducible refine Tl.brT ?_
      exact hr
theorem f22 {k : Nat} {h : AH} {v : Value} {l : List CellD} (S : Cells h v l) (hk : 61 < k) : Tl (F22 (eInv env k) k v (.int .i64 60) (.int .i64 600) h) fun r => ∃ b, r = (.bool b, h) ∧ (b = true → l.length ≤ 60) := by
  unfold F22
  have hlen : ∀ h', pLen Try.prog #[22] v h' = some (.int .i64 l.length) := fun h' => S.len
  cases q : decide ((l.length : Int) > 60)
  · have hle : l.length ≤ 60 := by simp at q; omega
    repeat (with_reducible apply Tl.val; focus (simp only [bnd_some, bin_add, bin_sub, bin_mul, bin_lss, bin_leq, bin_gtr, bin_geq, bin_eql, bin_neq, un_not, un_neg, goInt, gd_tt, gd_ff, gd_tf, gd_ft, gd_sk, gd3_tt, gd3_ff, gd3_tf, gd3_ft, gd3_sk, Option.map_some, lt_some, pick_t, pick_f, Nat.zero_add, Bool.not_true, Bool.not_false, Bool.true_and, Bool.false_and, Bool.and_true, Bool.and_false, cond_true, cond_false, beq_self_eq_true, Int.reduceBEq, decide_true, decide_false, ld2, ld3, ld9, ld26, ld28, fa26_0, fa26_1, fa26_2, fa28_0, fa28_1, fa28_2, fa28_3, aggV, aggZ, eql26, neq26, bin_eql_bool u4, hlen, q] <;> with_reducible rfl))
    with_reducible refine Tl.brF ?_
    exact f22_loop (bm := 600) S (by omega) (fun y7 y8 y16 => ⟨_, rfl, true, rfl, fun _ => hle⟩) ⟨_, rfl, false, rfl, fun h => by cases h⟩ l.length (i := 0) (by omega) (by omega)
  · repeat (with_reducible apply Tl.val; focus (simp only [bnd_some, bin_add, bin_sub, bin_mul, bin_lss, bin_leq, bin_gtr, bin_geq, bin_eql, bin_neq, un_not, un_neg, goInt, gd_tt, gd_ff, gd_tf, gd_ft, gd_sk, gd3_tt, gd3_ff, gd3_tf, gd3_ft, gd3_sk, Option.map_some, lt_some, pick_t, pick_f, Nat.zero_add, Bool.not_true, Bool.not_false, Bool.true_and, Bool.false_and, Bool.and_true, Bool.and_false, cond_true, cond_false, beq_self_eq_true, Int.reduceBEq, decide_true, decide_false, ld2, ld3, ld9, ld26, ld28, fa26_0, fa26_1, fa26_2, fa28_0, fa28_1, fa28_2, fa28_3, aggV, aggZ, eql26, neq26, bin_eql_bool u4, hlen, q] <;> with_reducible rfl))
    with_reducible refine Tl.brT ?_
    exact ⟨_, rfl, false, rfl, fun h => by cases h⟩
theorem f9c {k : Nat} {h : AH} {v : Value} {l : List CellD} (S : Cells h v l) (hk : 61 < k) : ∃ b, eInv env (k + 2) (.func 9) #[] #[v] h = some (.bool b, h) ∧ (b = true → l.length ≤ 60) := by
  rw [F9_call]
  unfold F9
  obtain ⟨r, hr, b, hb, hb2⟩ := f22 S hk
  refine ⟨b, ?_, hb2⟩
  rw [F22_call, hr, hb]
  rfl
theorem app22 : AppT Try.prog #[22, 22] 26 3 32 := ⟨by kernel_rfl, ⟨26, by kernel_rfl⟩, sz26, by omega, by kernel_rfl, ⟨_, ze26, rfl, rfl⟩⟩
theorem bs22 (h : AH) : pBuildSlice Try.prog 22 0 #[] h = some (.slice (some ⟨h.n, 0, none⟩) 0 0, h.alloc (.cells [] 26 true)) := by kernel_rfl
theorem one_crows (l : List CellD) : (l.map crow).flatten.all oneCell = true := by
  induction l with
  | nil => rfl
  | cons c l ih => simp only [List.map_cons, List.flatten_cons, List.all_append, ih, Bool.and_true]; rfl
/-- 'Own': a slice of one's own. -/
theorem f12c {k : Nat} {h : AH} {v : Value} {l : List CellD} (S : Cells h v l) (hl : l.length ≤ 2 ^ 30) : Tl (eInv env (k + 1) (.func 12) #[] #[v] h) fun r => ∃ b', SlX Try.prog r.2 r.1 3 b' (l.map crow) ∧ h.n ≤ b' ∧ Grow h r.2 := by
  rw [F12_call]
  unfold F12
  repeat (with_reducible apply Tl.val; focus (simp only [bnd_some, bin_add, bin_sub, bin_mul, bin_lss, bin_leq, bin_gtr, bin_geq, bin_eql, bin_neq, un_not, un_neg, goInt, gd_tt, gd_ff, gd_tf, gd_ft, gd_sk, gd3_tt, gd3_ff, gd3_tf, gd3_ft, gd3_sk, Option.map_some, lt_some, pick_t, pick_f, Nat.zero_add, Bool.not_true, Bool.not_false, Bool.true_and, Bool.false_and, Bool.and_true, Bool.and_false, cond_true, cond_false, beq_self_eq_true, Int.reduceBEq, decide_true, decide_false, ld2, ld3, ld9, ld26, ld28, fa26_0, fa26_1, fa26_2, fa28_0, fa28_1, fa28_2, fa28_3, aggV, aggZ, eql26, neq26, bin_eql_bool u4, bs22] <;> with_reducible rfl))
  have A : SlX Try.prog (h.alloc (.cells [] 26 true)) (.slice (some ⟨h.n, 0, none⟩) 0 0) 3 h.n [] :=
    ⟨rfl, ⟨⟨[], 26, AH.get_alloc_new _ _, fun h => absurd rfl h⟩, fun r hr => (by cases hr)⟩, szOk_of (AH.get_alloc_new _ _) sz26⟩
  obtain ⟨v', h', b', e1, e2, e3, e4⟩ := append_own app22 A (SlV.grow S (Grow.alloc _ _)) (by simp; omega) (one_crows l) (Nat.le_refl h.n)
  rw [List.nil_append] at e2
  refine Tl.val e1 ?_
  exact ⟨_, rfl, b', e2, e3, (Grow.alloc _ _).trans' e4⟩
end Go.Proofs.Ytpiibdegmimckaa.Sh
