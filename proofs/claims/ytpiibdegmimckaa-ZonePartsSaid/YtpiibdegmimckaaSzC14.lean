/- 'ZoneParts' comes to true: the whole. -/
import Derived.Test.YtpiibdegmimckaaSzC13
set_option linter.unusedVariables false
set_option linter.unusedSimpArgs false
namespace Go.Proofs.Ytpiibdegmimckaa.Sh
open Go Go.RowKit Go.Proofs.Ev Go.Lib

theorem f4 {k : Nat} {h : AH} {v : Value} {l : List CellD} (S : CellsE h v l) (kind cut op : Int) (c : CellD) :
    Tl (F4 (eInv env (k + 100)) (k + 100) (.int .i64 kind) v (.int .i64 cut) (.int .i64 op) c.v h) fun r => r.1 = .bool true := by
  unfold F4
  refine Tl.box (Sta.init h) rfl is26 fun b9 h1 S1 _ => ?_
  have S1 : Sta h.n h h1 [cb b9 c] := S1
  obtain ⟨bl, el, hl⟩ := f9c (k := k + 98) (S.cells.grow S1.done) (by omega)
  repeat (with_reducible apply Tl.val; focus (simp only [bnd_some, bin_add, bin_sub, bin_mul, bin_lss, bin_leq, bin_gtr, bin_geq, bin_eql, bin_neq, un_not, un_neg, goInt, gd_tt, gd_ff, gd_tf, gd_ft, gd_sk, gd3_tt, gd3_ff, gd3_tf, gd3_ft, gd3_sk, Option.map_some, lt_some, pick_t, pick_f, Nat.zero_add, Bool.not_true, Bool.not_false, Bool.true_and, Bool.false_and, Bool.and_true, Bool.and_false, cond_true, cond_false, beq_self_eq_true, Int.reduceBEq, decide_true, decide_false, ld2, ld3, ld9, ld26, ld28, fa26_0, fa26_1, fa26_2, fa28_0, fa28_1, fa28_2, fa28_3, aggV, aggZ, eql26, neq26, eql28, bin_eql_bool u4, lives_call] <;> with_reducible rfl))
  with_reducible refine Tl.brF ?_
  cases bl
  · repeat (with_reducible apply Tl.val; focus (simp only [bnd_some, bin_add, bin_sub, bin_mul, bin_lss, bin_leq, bin_gtr, bin_geq, bin_eql, bin_neq, un_not, un_neg, goInt, gd_tt, gd_ff, gd_tf, gd_ft, gd_sk, gd3_tt, gd3_ff, gd3_tf, gd3_ft, gd3_sk, Option.map_some, lt_some, pick_t, pick_f, Nat.zero_add, Bool.not_true, Bool.not_false, Bool.true_and, Bool.false_and, Bool.and_true, Bool.and_false, cond_true, cond_false, beq_self_eq_true, Int.reduceBEq, decide_true, decide_false, ld2, ld3, ld9, ld26, ld28, fa26_0, fa26_1, fa26_2, fa28_0, fa28_1, fa28_2, fa28_3, aggV, aggZ, eql26, neq26, eql28, bin_eql_bool u4, el] <;> with_reducible rfl))
    with_reducible refine Tl.brT ?_
    exact ⟨_, rfl, rfl⟩
  have hl := hl rfl
  repeat (with_reducible apply Tl.val; focus (simp only [bnd_some, bin_add, bin_sub, bin_mul, bin_lss, bin_leq, bin_gtr, bin_geq, bin_eql, bin_neq, un_not, un_neg, goInt, gd_tt, gd_ff, gd_tf, gd_ft, gd_sk, gd3_tt, gd3_ff, gd3_tf, gd3_ft, gd3_sk, Option.map_some, lt_some, pick_t, pick_f, Nat.zero_add, Bool.not_true, Bool.not_false, Bool.true_and, Bool.false_and, Bool.and_true, Bool.and_false, cond_true, cond_false, beq_self_eq_true, Int.reduceBEq, decide_true, decide_false, ld2, ld3, ld9, ld26, ld28, fa26_0, fa26_1, fa26_2, fa28_0, fa28_1, fa28_2, fa28_3, aggV, aggZ, eql26, neq26, eql28, bin_eql_bool u4, el] <;> with_reducible rfl))
  with_reducible refine Tl.brF ?_
  refine f4_loop1 (k := k) (i := 0) S.cells hl l.length (by omega) (by omega) S1 (fun h2 y y' S2 hall => ?_) fun h2 => ⟨_, rfl, rfl⟩
  rw [List.drop_zero] at hall
  have hlen : ∀ h', pLen Try.prog #[22] v h' = some (.int .i64 l.length) := fun h' => S.cells.len
  have w1 : IntKind.i64.wrap ((l.length : Int) + 1) = ((l.length + 1 : Nat) : Int) := by rw [wrap_i64 (by omega) (by omega)]; omega
  obtain ⟨w, hw, pick⟩ := f13c (k := k + 99) cut (l.length + 1) (by omega) (by omega) h2
  repeat (with_reducible apply Tl.val; focus (simp only [bnd_some, bin_add, bin_sub, bin_mul, bin_lss, bin_leq, bin_gtr, bin_geq, bin_eql, bin_neq, un_not, un_neg, goInt, gd_tt, gd_ff, gd_tf, gd_ft, gd_sk, gd3_tt, gd3_ff, gd3_tf, gd3_ft, gd3_sk, Option.map_some, lt_some, pick_t, pick_f, Nat.zero_add, Bool.not_true, Bool.not_false, Bool.true_and, Bool.false_and, Bool.and_true, Bool.and_false, cond_true, cond_false, beq_self_eq_true, Int.reduceBEq, decide_true, decide_false, ld2, ld3, ld9, ld26, ld28, fa26_0, fa26_1, fa26_2, fa28_0, fa28_1, fa28_2, fa28_3, aggV, aggZ, eql26, neq26, eql28, bin_eql_bool u4, hlen, w1, pick] <;> with_reducible rfl))
  refine Tl.alloc S2 ze28 rfl fun b12 h3 S3 g3 => ?_
  refine Tl.alloc S3 ze28 rfl fun b13 h4 S4 g4 => ?_
  refine Tl.alloc S4 ze28 rfl fun b14 h5 S5 g5 => ?_
  obtain ⟨va, sa, ca, ea⟩ := CellsE.slice (S.grow S2.done) (lo := none) (hi := some (.int .i64 w)) (i := 0) (j := w) rfl rfl (by omega) (by omega)
  obtain ⟨vb, sb, cb', eb⟩ := CellsE.slice (S.grow S2.done) (lo := some (.int .i64 w)) (hi := none) (i := w) (j := l.length) rfl rfl (by omega) (by omega)
  rw [List.drop_zero, Nat.sub_zero] at ca
  rw [List.take_of_length_le (by simp)] at cb'
  with_reducible refine Tl.call S5 (f10c (k := k + 87) (S.cells.grow S5.done) (by omega) (by omega)) fun h6 S6 g6 => ?_
  have G6 : Grow h2 h6 := ((g3.trans g4).trans g5).trans g6
  repeat (with_reducible apply Tl.val; focus (simp only [bnd_some, bin_add, bin_sub, bin_mul, bin_lss, bin_leq, bin_gtr, bin_geq, bin_eql, bin_neq, un_not, un_neg, goInt, gd_tt, gd_ff, gd_tf, gd_ft, gd_sk, gd3_tt, gd3_ff, gd3_tf, gd3_ft, gd3_sk, Option.map_some, lt_some, pick_t, pick_f, Nat.zero_add, Bool.not_true, Bool.not_false, Bool.true_and, Bool.false_and, Bool.and_true, Bool.and_false, cond_true, cond_false, beq_self_eq_true, Int.reduceBEq, decide_true, decide_false, ld2, ld3, ld9, ld26, ld28, fa26_0, fa26_1, fa26_2, fa28_0, fa28_1, fa28_2, fa28_3, aggV, aggZ, eql26, neq26, eql28, bin_eql_bool u4, sa h6 G6] <;> with_reducible rfl))
  with_reducible refine Tl.call S6 (f10c (k := k + 87) (ca.cells.grow G6) (by simp; omega) (by simp; omega)) fun h7 S7 g7 => ?_
  have G7 : Grow h2 h7 := G6.trans g7
  repeat (with_reducible apply Tl.val; focus (simp only [bnd_some, bin_add, bin_sub, bin_mul, bin_lss, bin_leq, bin_gtr, bin_geq, bin_eql, bin_neq, un_not, un_neg, goInt, gd_tt, gd_ff, gd_tf, gd_ft, gd_sk, gd3_tt, gd3_ff, gd3_tf, gd3_ft, gd3_sk, Option.map_some, lt_some, pick_t, pick_f, Nat.zero_add, Bool.not_true, Bool.not_false, Bool.true_and, Bool.false_and, Bool.and_true, Bool.and_false, cond_true, cond_false, beq_self_eq_true, Int.reduceBEq, decide_true, decide_false, ld2, ld3, ld9, ld26, ld28, fa26_0, fa26_1, fa26_2, fa28_0, fa28_1, fa28_2, fa28_3, aggV, aggZ, eql26, neq26, eql28, bin_eql_bool u4, sb h7 G7] <;> with_reducible rfl))
  with_reducible refine Tl.call S7 (f10c (k := k + 87) (cb'.cells.grow G7) (by simp; omega) (by simp; omega)) fun h8 S8 g8 => ?_
  refine Tl.store S8 2 rfl sz28 rfl rfl (of_decide_eq_true rfl) fun h9 S9 => ?_
  refine Tl.store S9 1 rfl sz28 rfl rfl (of_decide_eq_true rfl) fun h10 S10 => ?_
  refine Tl.store S10 0 rfl sz28 rfl rfl (of_decide_eq_true rfl) fun h11 S11 => ?_
  have S11 : Sta h.n h h11 [zb b14 (ofZ (l.drop w)), zb b13 (ofZ (l.take w)), zb b12 (ofZ l), cb b9 c] := S11
  with_reducible refine Tl.chk ?_ ?_
  · simp only [sa _ (Grow.refl _), sa _ g3, sa _ (g3.trans g4), sa _ ((g3.trans g4).trans g5), sa _ G6, sb _ (Grow.refl _), sb _ g3, sb _ (g3.trans g4), sb _ ((g3.trans g4).trans g5), sb _ G6, sb _ G7, sameO_some, ea, eb, Bool.and_self, Bool.not_true, Bool.or_true, Bool.true_and, Bool.false_or]
  obtain ⟨za, _⟩ := z_at S11 1 rfl
  have rc := row_at (i := 3) S11 rfl
  unfold pt
  repeat (with_reducible apply Tl.val; focus (simp only [bnd_some, bin_add, bin_sub, bin_mul, bin_lss, bin_leq, bin_gtr, bin_geq, bin_eql, bin_neq, un_not, un_neg, goInt, gd_tt, gd_ff, gd_tf, gd_ft, gd_sk, gd3_tt, gd3_ff, gd3_tf, gd3_ft, gd3_sk, Option.map_some, lt_some, pick_t, pick_f, Nat.zero_add, Bool.not_true, Bool.not_false, Bool.true_and, Bool.false_and, Bool.and_true, Bool.and_false, cond_true, cond_false, beq_self_eq_true, Int.reduceBEq, decide_true, decide_false, ld2, ld3, ld9, ld26, ld28, fa26_0, fa26_1, fa26_2, fa28_0, fa28_1, fa28_2, fa28_3, aggV, aggZ, eql26, neq26, eql28, bin_eql_bool u4, za, rc] <;> with_reducible rfl))
  with_reducible refine Tl.call S11 (f14c (k := k + 79) _ op c h11) fun h12 S12 _ => ?_
  obtain ⟨zb12, _⟩ := z_at S12 0 rfl
  have rc12 := row_at (i := 3) S12 rfl
  have fin : ∀ (may : Bool) h13, (may = true → mayB (ofZ l) op c = true) → Sta h.n h h13 [zb b14 (ofZ (l.drop w)), zb b13 (ofZ (l.take w)), zb b12 (ofZ l), cb b9 c] →
      Tl (F4_lrlrrrrrrr (eInv env (k + 100)) (k + 100) (k + 100) v (.int .i64 op) (.pointer (some ⟨b9, 0, none⟩)) (.pointer (some ⟨b12, 0, none⟩)) (.bool may) (.int .i64 0) h13
        (fun y1 y3 y9 y12 y15 y16 y71 h_8 =>
          Ev.bnd (pUn Try.prog Go.UnOp.not y15) fun x108 =>
          Ev.bnd (gd (some x108) false h_8 (lt (pLoad Try.prog 28 y12 h_8) h_8)) fun x110 =>
          Ev.bnd (gd (some x108) false x110.2 (some (y3, x110.2))) fun x111 =>
          Ev.bnd (gd (some x108) false x111.2 (lt (pLoad Try.prog 26 y9 x111.2) x111.2)) fun x112 =>
          Ev.bnd (gd (some x108) false x112.2 (eInv env (k + 100) (.func 14) #[] #[x110.1, x111.1, x112.1] x112.2)) fun x113 =>
          Ev.bnd (pickV x108 (Go.Value.bool true) x113.1) fun x114 =>
          some (x114, x113.2)) (fun y10 h_9 => some (y10, h_9))) fun r => r.1 = .bool true := by
    intro may h13 hm S13
    refine f4_loop2 (k := k) (i := 0) S.cells hl (fun x hx h0 => ⟨may_self hl hall hx h0 (by simp), may_self hl hall hx h0 (by simp), may_self hl hall hx h0 (by simp)⟩) l.length (by omega) (by omega) S13 fun h14 y y' S14 => ?_
    obtain ⟨z14, _⟩ := z_at S14 2 rfl
    have rc14 := row_at (i := 3) S14 rfl
    unfold pt
    cases may
    · repeat (with_reducible apply Tl.val; focus (simp only [bnd_some, bin_add, bin_sub, bin_mul, bin_lss, bin_leq, bin_gtr, bin_geq, bin_eql, bin_neq, un_not, un_neg, goInt, gd_tt, gd_ff, gd_tf, gd_ft, gd_sk, gd3_tt, gd3_ff, gd3_tf, gd3_ft, gd3_sk, Option.map_some, lt_some, pick_t, pick_f, Nat.zero_add, Bool.not_true, Bool.not_false, Bool.true_and, Bool.false_and, Bool.and_true, Bool.and_false, cond_true, cond_false, beq_self_eq_true, Int.reduceBEq, decide_true, decide_false, ld2, ld3, ld9, ld26, ld28, fa26_0, fa26_1, fa26_2, fa28_0, fa28_1, fa28_2, fa28_3, aggV, aggZ, eql26, neq26, eql28, bin_eql_bool u4] <;> with_reducible rfl))
      exact ⟨_, rfl, rfl⟩
    · have hm := hm rfl
      repeat (with_reducible apply Tl.val; focus (simp only [bnd_some, bin_add, bin_sub, bin_mul, bin_lss, bin_leq, bin_gtr, bin_geq, bin_eql, bin_neq, un_not, un_neg, goInt, gd_tt, gd_ff, gd_tf, gd_ft, gd_sk, gd3_tt, gd3_ff, gd3_tf, gd3_ft, gd3_sk, Option.map_some, lt_some, pick_t, pick_f, Nat.zero_add, Bool.not_true, Bool.not_false, Bool.true_and, Bool.false_and, Bool.and_true, Bool.and_false, cond_true, cond_false, beq_self_eq_true, Int.reduceBEq, decide_true, decide_false, ld2, ld3, ld9, ld26, ld28, fa26_0, fa26_1, fa26_2, fa28_0, fa28_1, fa28_2, fa28_3, aggV, aggZ, eql26, neq26, eql28, bin_eql_bool u4, z14, rc14] <;> with_reducible rfl))
      with_reducible refine Tl.gd_on ?_
      with_reducible refine Tl.call S14 (f14c (k := k + 79) (ofZ l) op c h14) fun h15 S15 _ => ?_
      rw [hm]
      repeat (with_reducible apply Tl.val; focus (simp only [bnd_some, bin_add, bin_sub, bin_mul, bin_lss, bin_leq, bin_gtr, bin_geq, bin_eql, bin_neq, un_not, un_neg, goInt, gd_tt, gd_ff, gd_tf, gd_ft, gd_sk, gd3_tt, gd3_ff, gd3_tf, gd3_ft, gd3_sk, Option.map_some, lt_some, pick_t, pick_f, Nat.zero_add, Bool.not_true, Bool.not_false, Bool.true_and, Bool.false_and, Bool.and_true, Bool.and_false, cond_true, cond_false, beq_self_eq_true, Int.reduceBEq, decide_true, decide_false, ld2, ld3, ld9, ld26, ld28, fa26_0, fa26_1, fa26_2, fa28_0, fa28_1, fa28_2, fa28_3, aggV, aggZ, eql26, neq26, eql28, bin_eql_bool u4] <;> with_reducible rfl))
      exact ⟨_, rfl, rfl⟩
  cases ma : mayB (ofZ (l.take w)) op c
  · repeat (with_reducible apply Tl.val; focus (simp only [bnd_some, bin_add, bin_sub, bin_mul, bin_lss, bin_leq, bin_gtr, bin_geq, bin_eql, bin_neq, un_not, un_neg, goInt, gd_tt, gd_ff, gd_tf, gd_ft, gd_sk, gd3_tt, gd3_ff, gd3_tf, gd3_ft, gd3_sk, Option.map_some, lt_some, pick_t, pick_f, Nat.zero_add, Bool.not_true, Bool.not_false, Bool.true_and, Bool.false_and, Bool.and_true, Bool.and_false, cond_true, cond_false, beq_self_eq_true, Int.reduceBEq, decide_true, decide_false, ld2, ld3, ld9, ld26, ld28, fa26_0, fa26_1, fa26_2, fa28_0, fa28_1, fa28_2, fa28_3, aggV, aggZ, eql26, neq26, eql28, bin_eql_bool u4, zb12, rc12] <;> with_reducible rfl))
    with_reducible refine Tl.gd_on ?_
    with_reducible refine Tl.call S12 (f14c (k := k + 79) _ op c h12) fun h13 S13 _ => ?_
    repeat (with_reducible apply Tl.val; focus (simp only [bnd_some, bin_add, bin_sub, bin_mul, bin_lss, bin_leq, bin_gtr, bin_geq, bin_eql, bin_neq, un_not, un_neg, goInt, gd_tt, gd_ff, gd_tf, gd_ft, gd_sk, gd3_tt, gd3_ff, gd3_tf, gd3_ft, gd3_sk, Option.map_some, lt_some, pick_t, pick_f, Nat.zero_add, Bool.not_true, Bool.not_false, Bool.true_and, Bool.false_and, Bool.and_true, Bool.and_false, cond_true, cond_false, beq_self_eq_true, Int.reduceBEq, decide_true, decide_false, ld2, ld3, ld9, ld26, ld28, fa26_0, fa26_1, fa26_2, fa28_0, fa28_1, fa28_2, fa28_3, aggV, aggZ, eql26, neq26, eql28, bin_eql_bool u4] <;> with_reducible rfl))
    exact fin _ _ (fun hm => may_part hl (by simp; omega) (fun x hx => List.mem_of_mem_drop hx) hall hm) S13
  · repeat (with_reducible apply Tl.val; focus (simp only [bnd_some, bin_add, bin_sub, bin_mul, bin_lss, bin_leq, bin_gtr, bin_geq, bin_eql, bin_neq, un_not, un_neg, goInt, gd_tt, gd_ff, gd_tf, gd_ft, gd_sk, gd3_tt, gd3_ff, gd3_tf, gd3_ft, gd3_sk, Option.map_some, lt_some, pick_t, pick_f, Nat.zero_add, Bool.not_true, Bool.not_false, Bool.true_and, Bool.false_and, Bool.and_true, Bool.and_false, cond_true, cond_false, beq_self_eq_true, Int.reduceBEq, decide_true, decide_false, ld2, ld3, ld9, ld26, ld28, fa26_0, fa26_1, fa26_2, fa28_0, fa28_1, fa28_2, fa28_3, aggV, aggZ, eql26, neq26, eql28, bin_eql_bool u4] <;> with_reducible rfl))
    exact fin _ _ (fun _ => may_part hl (by simp; omega) (fun x hx => List.mem_of_mem_take hx) hall ma) S12
end Go.Proofs.Ytpiibdegmimckaa.Sh
