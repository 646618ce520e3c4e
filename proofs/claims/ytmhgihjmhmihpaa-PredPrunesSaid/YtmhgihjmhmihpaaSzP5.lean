/- Wider zones tell no more; the zones of rows, as the law makes them. -/
import Derived.Test.YtmhgihjmhmihpaaSzP4
import Derived.Test.YtmhgihjmhmihpaaSzVi
set_option linter.unusedVariables false
set_option linter.unusedSimpArgs false
set_option maxRecDepth 100000
namespace Go.Proofs.Ytmhgihjmhmihpaa.Sh
open Go Go.RowKit Go.Proofs.Ev
theorem base_P5 : type_of% (And.intro @ld3 (And.intro @ld4 (And.intro @ld9 (And.intro @ld23 (And.intro @ld42 (And.intro @ld58 (And.intro @fa42_0 (And.intro @fa42_1 (And.intro @fa42_2 (And.intro @fa58_0 (And.intro @fa58_1 (And.intro @fa58_2 (And.intro @fa58_3 (@Nat.add_zero)))))))))))))) := And.intro @ld3 (And.intro @ld4 (And.intro @ld9 (And.intro @ld23 (And.intro @ld42 (And.intro @ld58 (And.intro @fa42_0 (And.intro @fa42_1 (And.intro @fa42_2 (And.intro @fa58_0 (And.intro @fa58_1 (And.intro @fa58_2 (And.intro @fa58_3 (@Nat.add_zero)))))))))))))
/-- What wider zones tell own ones tell. -/
def Less (own wide : Int) : Prop := (wide = 1 → own = 1) ∧ (wide = 3 → own = 3)
theorem leaf_less {op : Int} {val : CellD} {a b : List CellD} (hne : a ≠ []) :
    Less (zoneC op ((colZ a.length a).mn.cmp val) ((colZ a.length a).mx.cmp val) (decide ((colZ a.length a).mn.k = 0)) (decide ((colZ a.length a).nul = 0)) (decide ((colZ a.length a).nul = (colZ a.length a).cnt)))
      (zoneC op ((colZ (a ++ b).length (a ++ b)).mn.cmp val) ((colZ (a ++ b).length (a ++ b)).mx.cmp val) (decide ((colZ (a ++ b).length (a ++ b)).mn.k = 0)) (decide ((colZ (a ++ b).length (a ++ b)).nul = 0)) (decide ((colZ (a ++ b).length (a ++ b)).nul = (colZ (a ++ b).length (a ++ b)).cnt))) := by
  have I := colZ_ok a.length a
  have hc := colZ_cnt a.length a
  have I' := colZ_ok (a ++ b).length (a ++ b)
  have hc' := colZ_cnt (a ++ b).length (a ++ b)
  have W := wider_colZ a.length (a ++ b).length a b
  generalize colZ a.length a = z at *
  generalize colZ (a ++ b).length (a ++ b) = w at *
  have hpos := List.length_pos_iff.2 hne
  have n0 : w.nul = 0 → z.nul = 0 := fun h => by
    have h1 := I'.nuls
    have h2 := I.nuls
    rw [List.filter_append, List.length_append] at h1
    omega
  have n1 : w.nul = w.cnt → z.nul = z.cnt := fun h => by
    have h1 := I'.nuls
    have h2 := I.nuls
    have h3 := (filter_all (l := a ++ b)).1 (by omega)
    have h4 := (filter_all (l := a)).2 fun v hv => h3 v (List.mem_append.2 (.inl hv))
    omega
  have n2 : z.nul = 0 → z.mn.k ≠ 0 := fun h => by
    have h2 := I.nuls
    obtain ⟨v, hv⟩ := List.exists_mem_of_ne_nil a hne
    exact (I.low v hv (filter_none.1 (by omega) v hv)).1
  have n3 : z.nul = z.cnt → z.nul ≠ 0 := fun h => by omega
  have m0 : w.mn.k = 0 → z.mn.k = 0 := fun h => by
    by_cases q : z.mn.k = 0
    · exact q
    · exact absurd h (W.mn q).1
  have lo : z.mn.k ≠ 0 → w.mn.cmp val > 0 → z.mn.cmp val > 0 := fun h h1 => by
    by_cases q : z.mn.cmp val ≤ 0
    · have := CellD.cmp_trans (W.mn h).2 q; omega
    · omega
  have lo2 : z.mn.k ≠ 0 → w.mn.cmp val ≥ 0 → z.mn.cmp val ≥ 0 := fun h h1 => by
    have h2 : val.cmp w.mn ≤ 0 := by rw [cmp_le_flip]; exact h1
    have := CellD.cmp_trans h2 (W.mn h).2
    rw [cmp_le_flip] at this
    exact this
  have hi : z.mn.k ≠ 0 → w.mx.cmp val < 0 → z.mx.cmp val < 0 := fun h h1 => by
    by_cases q : z.mx.cmp val < 0
    · exact q
    · have h2 : val.cmp z.mx ≤ 0 := by rw [cmp_le_flip]; omega
      have := CellD.cmp_trans h2 (W.mx h)
      rw [cmp_le_flip] at this
      omega
  have hi2 : z.mn.k ≠ 0 → w.mx.cmp val ≤ 0 → z.mx.cmp val ≤ 0 := fun h h1 => CellD.cmp_trans (W.mx h) h1
  have en : z.mn.k ≠ 0 → z.mx.cmp val ≤ 0 → z.mn.cmp val ≤ 0 := fun h h1 => CellD.cmp_trans (I.ends h) h1
  have en2 : z.mn.k ≠ 0 → z.mx.cmp val < 0 → z.mn.cmp val < 0 := fun h h1 => by
    by_cases q : z.mn.cmp val < 0
    · exact q
    · have h2 : val.cmp z.mn ≤ 0 := by rw [cmp_le_flip]; omega
      have := CellD.cmp_trans h2 (I.ends h)
      rw [cmp_le_flip] at this
      omega
  have en3 : z.mn.k ≠ 0 → z.mn.cmp val > 0 → z.mx.cmp val > 0 := fun h h1 => by
    by_cases q : z.mx.cmp val ≤ 0
    · have := en h q; omega
    · omega
  unfold zoneC
  generalize z.mn.cmp val = low at *
  generalize z.mx.cmp val = high at *
  generalize w.mn.cmp val = low' at *
  generalize w.mx.cmp val = high' at *
  clear W I I'
  by_cases o2 : op = 2
  · rw [if_pos o2, if_pos o2]
    constructor
    · intro h
      rcases toldI_cases (decide (w.mn.k = 0) || (decide (low' > 0) || decide (high' < 0))) (decide (w.nul = 0) && (decide (low' = 0) && decide (high' = 0))) with ⟨e, h1⟩ | ⟨e, _⟩ | ⟨e, _⟩
      · simp only [Bool.or_eq_true, decide_eq_true_iff] at h1
        have : (decide (z.mn.k = 0) || (decide (low > 0) || decide (high < 0))) = true := by
          simp only [Bool.or_eq_true, decide_eq_true_iff]
          by_cases q : z.mn.k = 0
          · exact .inl q
          · rcases h1 with h1 | h1 | h1
            · exact absurd (m0 h1) q
            · exact .inr (.inl (lo q h1))
            · exact .inr (.inr (hi q h1))
        rw [this]; rfl
      · omega
      · omega
    · intro h
      rcases toldI_cases (decide (w.mn.k = 0) || (decide (low' > 0) || decide (high' < 0))) (decide (w.nul = 0) && (decide (low' = 0) && decide (high' = 0))) with ⟨e, _⟩ | ⟨e, h1, h2⟩ | ⟨e, _⟩
      · omega
      · simp only [Bool.and_eq_true, decide_eq_true_iff] at h2
        have q := n2 (n0 h2.1)
        have a1 := lo2 q (by omega)
        have a2 := hi2 q (by omega)
        have a3 := en q a2
        have a4 : high = 0 := by
          by_cases q2 : high < 0
          · have := en2 q q2; omega
          · omega
        have e1 : (decide (z.mn.k = 0) || (decide (low > 0) || decide (high < 0))) = false := by
          simp only [Bool.or_eq_false_iff, decide_eq_false_iff_not]
          exact ⟨q, by omega, by omega⟩
        have e2 : (decide (z.nul = 0) && (decide (low = 0) && decide (high = 0))) = true := by
          simp only [Bool.and_eq_true, decide_eq_true_iff]
          exact ⟨n0 h2.1, by omega, a4⟩
        rw [e1, e2]; rfl
      · omega
  rw [if_neg o2, if_neg o2]
  by_cases o3 : op = 3
  · rw [if_pos o3, if_pos o3]
    constructor
    · intro h
      rcases toldI_cases (decide (w.mn.k = 0) || decide (low' ≥ 0)) (decide (w.nul = 0) && decide (high' < 0)) with ⟨e, h1⟩ | ⟨e, _⟩ | ⟨e, _⟩
      · simp only [Bool.or_eq_true, decide_eq_true_iff] at h1
        have : (decide (z.mn.k = 0) || decide (low ≥ 0)) = true := by
          simp only [Bool.or_eq_true, decide_eq_true_iff]
          by_cases q : z.mn.k = 0
          · exact .inl q
          · rcases h1 with h1 | h1
            · exact absurd (m0 h1) q
            · exact .inr (lo2 q h1)
        rw [this]; rfl
      · omega
      · omega
    · intro h
      rcases toldI_cases (decide (w.mn.k = 0) || decide (low' ≥ 0)) (decide (w.nul = 0) && decide (high' < 0)) with ⟨e, _⟩ | ⟨e, h1, h2⟩ | ⟨e, _⟩
      · omega
      · simp only [Bool.and_eq_true, decide_eq_true_iff] at h2
        have q := n2 (n0 h2.1)
        have a1 := hi q h2.2
        have a2 := en2 q a1
        have e1 : (decide (z.mn.k = 0) || decide (low ≥ 0)) = false := by
          simp only [Bool.or_eq_false_iff, decide_eq_false_iff_not]
          exact ⟨q, by omega⟩
        have e2 : (decide (z.nul = 0) && decide (high < 0)) = true := by
          simp only [Bool.and_eq_true, decide_eq_true_iff]
          exact ⟨n0 h2.1, a1⟩
        rw [e1, e2]; rfl
      · omega
  rw [if_neg o3, if_neg o3]
  by_cases o4 : op = 4
  · rw [if_pos o4, if_pos o4]
    constructor
    · intro h
      rcases toldI_cases (decide (w.mn.k = 0) || decide (high' ≤ 0)) (decide (w.nul = 0) && decide (low' > 0)) with ⟨e, h1⟩ | ⟨e, _⟩ | ⟨e, _⟩
      · simp only [Bool.or_eq_true, decide_eq_true_iff] at h1
        have : (decide (z.mn.k = 0) || decide (high ≤ 0)) = true := by
          simp only [Bool.or_eq_true, decide_eq_true_iff]
          by_cases q : z.mn.k = 0
          · exact .inl q
          · rcases h1 with h1 | h1
            · exact absurd (m0 h1) q
            · exact .inr (hi2 q h1)
        rw [this]; rfl
      · omega
      · omega
    · intro h
      rcases toldI_cases (decide (w.mn.k = 0) || decide (high' ≤ 0)) (decide (w.nul = 0) && decide (low' > 0)) with ⟨e, _⟩ | ⟨e, h1, h2⟩ | ⟨e, _⟩
      · omega
      · simp only [Bool.and_eq_true, decide_eq_true_iff] at h2
        have q := n2 (n0 h2.1)
        have a1 := lo q h2.2
        have a2 := en3 q a1
        have e1 : (decide (z.mn.k = 0) || decide (high ≤ 0)) = false := by
          simp only [Bool.or_eq_false_iff, decide_eq_false_iff_not]
          exact ⟨q, by omega⟩
        have e2 : (decide (z.nul = 0) && decide (low > 0)) = true := by
          simp only [Bool.and_eq_true, decide_eq_true_iff]
          exact ⟨n0 h2.1, a1⟩
        rw [e1, e2]; rfl
      · omega
  rw [if_neg o4, if_neg o4]
  constructor
  · intro h
    rcases toldI_cases (decide (w.nul = 0)) (decide (w.nul = w.cnt)) with ⟨e, h1⟩ | ⟨e, _⟩ | ⟨e, _⟩
    · rw [decide_eq_true_iff] at h1
      rw [decide_eq_true (n0 h1)]; rfl
    · omega
    · omega
  · intro h
    rcases toldI_cases (decide (w.nul = 0)) (decide (w.nul = w.cnt)) with ⟨e, _⟩ | ⟨e, h1, h2⟩ | ⟨e, _⟩
    · omega
    · rw [decide_eq_true_iff] at h2
      rw [decide_eq_false (n3 (n1 h2)), decide_eq_true (n1 h2)]; rfl
    · omega
theorem less_every {w : Int} (hw : w = 1 ∨ w = 3) {ps qs : List Int} (A : All2 Less ps qs) (h : everyB qs w = true) : everyB ps w = true := by
  rw [every_iff] at h ⊢
  induction ps generalizing qs with
  | nil => intro p hp; cases hp
  | cons p ps ih =>
    cases qs with
    | nil => exact A.elim
    | cons q qs =>
      intro x hx
      rcases List.mem_cons.1 hx with rfl | hx
      · have := h q (List.mem_cons_self ..)
        rcases hw with rfl | rfl
        · exact A.1.1 this
        · exact A.1.2 this
      · exact ih A.2 (fun y hy => h y (List.mem_cons_of_mem _ hy)) x hx
theorem less_contains {w : Int} (hw : w = 1 ∨ w = 3) {ps qs : List Int} (A : All2 Less ps qs) (h : qs.contains w = true) : ps.contains w = true := by
  rw [List.contains_iff_mem] at h ⊢
  induction ps generalizing qs with
  | nil => cases qs with
    | nil => cases h
    | cons q qs => exact A.elim
  | cons p ps ih =>
    cases qs with
    | nil => exact A.elim
    | cons q qs =>
      rcases List.mem_cons.1 h with h | h
      · have : p = w := by
          rcases hw with rfl | rfl
          · exact A.1.1 h.symm
          · exact A.1.2 h.symm
        rw [this]; exact List.mem_cons_self ..
      · exact List.mem_cons_of_mem _ (ih A.2 h)
theorem every_not_contains {ps : List Int} {w u : Int} (hwu : w ≠ u) (h : everyB ps w = true) : ps.contains u = false := by
  rw [every_iff] at h
  cases q : ps.contains u with
  | false => rfl
  | true =>
    rw [List.contains_iff_mem] at q
    exact absurd (h u q).symm hwu
theorem contains_not_every {ps : List Int} {w u : Int} (hwu : w ≠ u) (h : ps.contains u = true) : everyB ps w = false := by
  cases q : everyB ps w with
  | false => rfl
  | true =>
    rw [every_not_contains hwu q] at h
    cases h
theorem node_less {n : Nat} {rows more : List (List CellD)} (hne : rows ≠ []) {nd : NodeD} {ps qs : List Int} (A : All2 Less ps qs) : Less (tellZ (zonesL n rows) nd ps) (tellZ (zonesL n (rows ++ more)) nd qs) := by
  unfold tellZ
  by_cases q : 2 ≤ nd.op ∧ nd.op ≤ 5
  · rw [if_pos q, if_pos q]
    unfold zoneB
    by_cases q0 : 0 ≤ nd.col
    · rw [if_pos q0, if_pos q0]
      by_cases q1 : nd.col.toNat < n
      · rw [zones_at q1, zones_at q1]
        simp only
        have := leaf_less (op := nd.op) (val := nd.val) (a := rows.map fun r => (r[nd.col.toNat]?).getD cellZ) (b := more.map fun r => (r[nd.col.toNat]?).getD cellZ) (by simpa using hne)
        rw [← List.map_append, List.length_map, List.length_map] at this
        exact this
      · have e : ∀ rs, (zonesL n rs)[nd.col.toNat]? = none := fun rs => List.getElem?_eq_none (show (zonesL n rs).length ≤ _ by simp [zonesL]; omega)
        rw [e, e]
        exact ⟨fun h => h, fun h => h⟩
    · rw [if_neg q0, if_neg q0]
      exact ⟨fun h => h, fun h => h⟩
  · rw [if_neg q, if_neg q]
    by_cases o1 : nd.op = 1
    · rw [if_pos o1, if_pos o1]
      exact ⟨fun h => h, fun h => h⟩
    rw [if_neg o1, if_neg o1]
    by_cases o6 : nd.op = 6
    · rw [if_pos o6, if_pos o6]
      rcases toldI_cases (qs.contains 1) (everyB qs 3) with ⟨e, h⟩ | ⟨e, _, h⟩ | ⟨e, _⟩
      · rw [e, less_contains (.inl rfl) A h]; exact ⟨fun _ => rfl, fun h => by omega⟩
      · have h3 := less_every (.inr rfl) A h
        rw [e, h3, every_not_contains (by omega) h3]; exact ⟨fun h => by omega, fun _ => rfl⟩
      · rw [e]; exact ⟨fun h => by omega, fun h => by omega⟩
    rw [if_neg o6, if_neg o6]
    by_cases o7 : nd.op = 7
    · rw [if_pos o7, if_pos o7]
      cases h3 : qs.contains (3 : Int) with
      | true =>
        rw [if_pos rfl, less_contains (.inr rfl) A h3, if_pos rfl]
        exact ⟨fun h => h, fun h => h⟩
      | false =>
        rw [if_neg (show ¬ (false = true) by simp)]
        rcases toldI_cases (everyB qs 1) false with ⟨e, h⟩ | ⟨_, _, h⟩ | ⟨e, _⟩
        · have h1 := less_every (.inl rfl) A h
          rw [e, h1, every_not_contains (by omega) h1, if_neg (by simp)]; exact ⟨fun _ => rfl, fun h => by omega⟩
        · cases h
        · rw [e]; exact ⟨fun h => by omega, fun h => by omega⟩
    rw [if_neg o7, if_neg o7]
    by_cases o8 : nd.op = 8
    · rw [if_pos o8, if_pos o8]
      rcases toldI_cases (everyB qs 3) (qs.contains 1) with ⟨e, h⟩ | ⟨e, _, h⟩ | ⟨e, _⟩
      · rw [e, less_every (.inr rfl) A h]; exact ⟨fun _ => rfl, fun h => by omega⟩
      · have h1 := less_contains (.inl rfl) A h
        rw [e, h1, contains_not_every (by omega) h1]; exact ⟨fun h => by omega, fun _ => rfl⟩
      · rw [e]; exact ⟨fun h => by omega, fun h => by omega⟩
    rw [if_neg o8, if_neg o8]
    exact ⟨fun h => h, fun h => h⟩
theorem zone_less {n : Nat} {rows more : List (List CellD)} (hne : rows ≠ []) (l : List NodeD) : Less (zoneL (zonesL n rows) l) (zoneL (zonesL n (rows ++ more)) l) := by
  unfold zoneL
  by_cases q : l = []
  · rw [if_pos q, if_pos q]; exact ⟨fun h => h, fun h => h⟩
  · rw [if_neg q, if_neg q]
    have A := gone_rel (R := Less) (d := (2 : Int)) (d' := (2 : Int)) (t := tellZ (zonesL n rows)) (t' := tellZ (zonesL n (rows ++ more))) ⟨fun h => h, fun h => h⟩ (fun nd ps qs A => node_less hne A) l (o := []) (o' := []) trivial
    refine all2_last A (fun h => q ?_) 0 0
    have := congrArg List.length h
    rw [goneL_len'] at this
    simp at this
    exact this
theorem zone_range {n : Nat} {rows : List (List CellD)} (l : List NodeD) : 1 ≤ zoneL (zonesL n rows) l ∧ zoneL (zonesL n rows) l ≤ 3 := by
  unfold zoneL
  by_cases q : l = []
  · rw [if_pos q]; omega
  · rw [if_neg q]
    have hc : ∀ op low high null full all, 1 ≤ zoneC op low high null full all ∧ zoneC op low high null full all ≤ 3 := by
      intro op low high null full all
      unfold zoneC
      repeat' split
      all_goals (unfold toldI; repeat' split)
      all_goals omega
    have ht : ∀ nd ps, 1 ≤ tellZ (zonesL n rows) nd ps ∧ tellZ (zonesL n rows) nd ps ≤ 3 := by
      intro nd ps
      unfold tellZ
      split
      · unfold zoneB
        split
        · split
          · exact hc ..
          · omega
        · omega
      · repeat' split
        all_goals first | omega | (unfold toldI; repeat' split) <;> omega
    have A := gone_rel (R := fun (a : Int) (_ : Int) => 1 ≤ a ∧ a ≤ 3) (d := (2 : Int)) (d' := (2 : Int)) (t := tellZ (zonesL n rows)) (t' := tellZ (zonesL n rows)) ⟨by omega, by omega⟩ (fun nd ps qs _ => ht nd ps) l (o := []) (o' := []) trivial
    refine all2_last A (fun h => q ?_) 0 0
    have := congrArg List.length h
    rw [goneL_len'] at this
    simp at this
    exact this
/-! ### 'zones' -/
theorem bs38 (z : ZoneD) (h : AH) : pBuildSlice Try.prog 38 1 #[(0, .agg (zrow z).toArray)] h = some (.slice (some ⟨h.n, 0, none⟩) 1 1, h.alloc (.cells (zrow z) 58 true)) := by kernel_rfl
theorem app38 : AppT Try.prog #[38, 38] 58 8 80 := ⟨by kernel_rfl, ⟨58, by kernel_rfl⟩, by kernel_rfl, by omega, by kernel_rfl, ⟨_, ze58, rfl, rfl⟩⟩
theorem bd58 (n : Int) : pBuild Try.prog 58 #[(0, .int .i64 n)] = some (.agg (zrow ⟨n, 0, cellZ, cellZ⟩).toArray) := by kernel_rfl
theorem f18_row {β : Type} {k : Nat} {Q : β → Prop} {h0 h : AH} {O : List OS} {cv rv x5 x22 : Value} {b7 c i : Nat} {z : ZoneD} {rows : List (List CellD)} {row : List CellD} {v : CellD} (R : Rows h0 rv rows) (er : rows[i]? = some row) (ev : row[c]? = some v) (hnul : 0 ≤ z.nul ∧ z.nul ≤ 2 ^ 40)
    (S : Stt Try.prog h0.n h0 h [(b7, .cells (zrow z) 58 true)] O) {kn : Value → Value → Value → Value → Value → Value → Value → Value → AH → Option β}
    (hk : ∀ y9 y62 h', Stt Try.prog h0.n h0 h' [(b7, .cells (zrow (zstep z v)) 58 true)] O → Tl (kn cv rv x5 (.int .i64 c) (.pointer (some ⟨b7, 0, none⟩)) (.int .i64 i) y9 y62 h') Q) :
    Tl (F18_lrllrlrllrllrlrr (eInv env (k + 10)) (k + 10) cv rv x5 (.int .i64 c) (.pointer (some ⟨b7, 0, none⟩)) (.int .i64 i) x22 h kn) Q := by
  obtain ⟨b, o, w, hp, hc, C⟩ := R.at_ er
  obtain ⟨b2, o2, hp2, hrow⟩ := C.at_ ev
  have hc1 := S.grow.cell hc
  have hrow1 := S.grow.row hrow
  unfold F18_lrllrlrllrllrlrr
  repeat (first | (with_reducible apply Tl.val; focus (simp (disch := omega) only [coreA, Int.reduceBEq, base_P5, hp, hc1, hp2, hrow1] <;> with_reducible rfl)) | (with_reducible first | refine Tl.brT ?_ | refine Tl.brF ?_ | refine Tl.gd_on ?_ | refine Tl.gd3_on ?_) | ((with_reducible first | apply Tl.brC | apply Tl.gdC | apply Tl.gd3C); focus (simp (disch := omega) only [coreA, Int.reduceBEq, base_P5, hp, hc1, hp2, hrow1] <;> with_reducible rfl)))
  refine Tl.alloc' S ze42 (by rfl) fun b9 h1 S1 g1 => ?_
  refine Tl.store' S1 0 rfl sz42 rfl rfl (by simp [Value.cells]) fun h2 S2 k2 => ?_
  have S2 : Stt Try.prog h0.n h0 h2 [(b9, .cells (crow v) 42 true), (b7, .cells (zrow z) 58 true)] O := S2
  have c0 : h2.cell b9 0 = some (.int .i64 v.k) := S2.cell 0 rfl rfl
  have d1 : h2.cell b7 1 = some (.int .i64 z.nul) := S2.cell 1 rfl rfl
  unfold zstep at hk
  by_cases q : v.k = 0
  · rw [if_pos q] at hk
    repeat (first | (with_reducible apply Tl.val; focus (simp (disch := omega) only [coreA, Int.reduceBEq, base_P5, c0, d1] <;> with_reducible rfl)) | (with_reducible first | refine Tl.brT ?_ | refine Tl.brF ?_ | refine Tl.gd_on ?_ | refine Tl.gd3_on ?_) | ((with_reducible first | apply Tl.brC | apply Tl.gdC | apply Tl.gd3C); focus (simp (disch := omega) only [coreA, Int.reduceBEq, base_P5, c0, d1] <;> with_reducible rfl)))
    refine Tl.store' S2 1 rfl sz3 rfl rfl (by simp [zrow]) fun h3 S3 k3 => ?_
    exact hk _ _ _ (S3.drop)
  · rw [if_neg q] at hk
    have d2 : h2.cell b7 2 = some (.int .i64 z.mn.k) := S2.cell 1 rfl rfl
    have rv2 : h2.row b9 0 3 = some (crow v) := S2.row 0 rfl rfl
    have rm2 : h2.row b7 2 3 = some (crow z.mn) := S2.part 1 rfl (by simp [zrow]) rfl
    -- behind the least
    have second : ∀ (z1 : ZoneD) (h3 : AH) (x49 : Value), Stt Try.prog h0.n h0 h3 [(b9, .cells (crow v) 42 true), (b7, .cells (zrow z1) 58 true)] O →
        (∀ y9 y62 h', Stt Try.prog h0.n h0 h' [(b7, .cells (zrow (if z1.mx.k = 0 ∨ v.cmp z1.mx > 0 then { z1 with mx := v } else z1)) 58 true)] O → Tl (kn cv rv x5 (.int .i64 c) (.pointer (some ⟨b7, 0, none⟩)) (.int .i64 i) y9 y62 h') Q) →
        Tl (G18_14 (eInv env (k + 10)) cv rv x5 (.int .i64 c) (.pointer (some ⟨b7, 0, none⟩)) (.int .i64 i) (.pointer (some ⟨b9, 0, none⟩)) h3 fun y62 h_4 =>
    brV y62
    (bnd (pLoad Try.prog 42 (.pointer (some ⟨b9, 0, none⟩)) h_4) fun x63 =>
    bnd (pFieldAddr Try.prog 58 (.pointer (some ⟨b7, 0, none⟩)) 3) fun x64 =>
    bnd (kSt (pStore Try.prog 42 x64 x63 h_4)) fun u_5 =>
    kn cv rv x5 (.int .i64 c) (.pointer (some ⟨b7, 0, none⟩)) (.int .i64 i) unk unk u_5.2)
    (kn cv rv x5 (.int .i64 c) (.pointer (some ⟨b7, 0, none⟩)) (.int .i64 i) (.pointer (some ⟨b9, 0, none⟩)) y62 h_4)) Q := by
      intro z1 h3 x49 S3 hk1
      have e5 : h3.cell b7 5 = some (.int .i64 z1.mx.k) := S3.cell 1 rfl rfl
      have rv3 : h3.row b9 0 3 = some (crow v) := S3.row 0 rfl rfl
      have rm3 : h3.row b7 5 3 = some (crow z1.mx) := S3.part 1 rfl (by simp [zrow]) rfl
      by_cases q5 : z1.mx.k = 0
      · rw [if_pos (.inl q5)] at hk1
        repeat (first | (with_reducible apply Tl.val; focus (simp (disch := omega) only [coreA, Int.reduceBEq, base_P5, e5, rv3] <;> with_reducible rfl)) | (with_reducible first | refine Tl.brT ?_ | refine Tl.brF ?_ | refine Tl.gd_on ?_ | refine Tl.gd3_on ?_) | ((with_reducible first | apply Tl.brC | apply Tl.gdC | apply Tl.gd3C); focus (simp (disch := omega) only [coreA, Int.reduceBEq, base_P5, e5, rv3] <;> with_reducible rfl)))
        refine Tl.store' S3 1 rfl sz42 rfl rfl (by simp [zrow, Value.cells, crow]) fun h4 S4 k4 => ?_
        exact hk1 _ _ _ S4.drop
      · repeat (first | (with_reducible apply Tl.val; focus (simp (disch := omega) only [coreA, Int.reduceBEq, base_P5, e5, rv3, rm3] <;> with_reducible rfl)) | (with_reducible first | refine Tl.brT ?_ | refine Tl.brF ?_ | refine Tl.gd_on ?_ | refine Tl.gd3_on ?_) | ((with_reducible first | apply Tl.brC | apply Tl.gdC | apply Tl.gd3C); focus (simp (disch := omega) only [coreA, Int.reduceBEq, base_P5, e5, rv3, rm3] <;> with_reducible rfl)))
        refine Tl.call' S3 (f42c (k := k + 8) v z1.mx h3) fun h4 S4 g4 => ?_
        have rv4 : h4.row b9 0 3 = some (crow v) := S4.row 0 rfl rfl
        by_cases q6 : v.cmp z1.mx > 0
        · rw [if_pos (.inr q6)] at hk1
          repeat (first | (with_reducible apply Tl.val; focus (simp (disch := omega) only [coreA, Int.reduceBEq, base_P5, rv4] <;> with_reducible rfl)) | (with_reducible first | refine Tl.brT ?_ | refine Tl.brF ?_ | refine Tl.gd_on ?_ | refine Tl.gd3_on ?_) | ((with_reducible first | apply Tl.brC | apply Tl.gdC | apply Tl.gd3C); focus (simp (disch := omega) only [coreA, Int.reduceBEq, base_P5, rv4] <;> with_reducible rfl)))
          refine Tl.store' S4 1 rfl sz42 rfl rfl (by simp [zrow, Value.cells, crow]) fun h5 S5 k5 => ?_
          exact hk1 _ _ _ S5.drop
        · rw [if_neg (fun h => h.elim q5 q6)] at hk1
          repeat (first | (with_reducible apply Tl.val; focus (simp (disch := omega) only [coreA, Int.reduceBEq, base_P5] <;> with_reducible rfl)) | (with_reducible first | refine Tl.brT ?_ | refine Tl.brF ?_ | refine Tl.gd_on ?_ | refine Tl.gd3_on ?_) | ((with_reducible first | apply Tl.brC | apply Tl.gdC | apply Tl.gd3C); focus (simp (disch := omega) only [coreA, Int.reduceBEq, base_P5] <;> with_reducible rfl)))
          exact hk1 _ _ _ S4.drop
    unfold F18_rlrrllrllrlrllrllrlrr
    by_cases q2 : z.mn.k = 0
    · have e1 : (if z.mn.k = 0 ∨ v.cmp z.mn < 0 then { z with mn := v } else z) = { z with mn := v } := if_pos (.inl q2)
      simp only [e1] at hk
      repeat (first | (with_reducible apply Tl.val; focus (simp (disch := omega) only [coreA, Int.reduceBEq, base_P5, c0, d2, rv2] <;> with_reducible rfl)) | (with_reducible first | refine Tl.brT ?_ | refine Tl.brF ?_ | refine Tl.gd_on ?_ | refine Tl.gd3_on ?_) | ((with_reducible first | apply Tl.brC | apply Tl.gdC | apply Tl.gd3C); focus (simp (disch := omega) only [coreA, Int.reduceBEq, base_P5, c0, d2, rv2] <;> with_reducible rfl)))
      refine Tl.store' S2 1 rfl sz42 rfl rfl (by simp [zrow, Value.cells, crow]) fun h3 S3 k3 => ?_
      exact second { z with mn := v } h3 unk S3 hk
    · repeat (first | (with_reducible apply Tl.val; focus (simp (disch := omega) only [coreA, Int.reduceBEq, base_P5, c0, d2, rv2, rm2] <;> with_reducible rfl)) | (with_reducible first | refine Tl.brT ?_ | refine Tl.brF ?_ | refine Tl.gd_on ?_ | refine Tl.gd3_on ?_) | ((with_reducible first | apply Tl.brC | apply Tl.gdC | apply Tl.gd3C); focus (simp (disch := omega) only [coreA, Int.reduceBEq, base_P5, c0, d2, rv2, rm2] <;> with_reducible rfl)))
      refine Tl.call' S2 (f42c (k := k + 8) v z.mn h2) fun h3 S3 g3 => ?_
      have rv3 : h3.row b9 0 3 = some (crow v) := S3.row 0 rfl rfl
      by_cases q3 : v.cmp z.mn < 0
      · have e1 : (if z.mn.k = 0 ∨ v.cmp z.mn < 0 then { z with mn := v } else z) = { z with mn := v } := if_pos (.inr q3)
        simp only [e1] at hk
        repeat (first | (with_reducible apply Tl.val; focus (simp (disch := omega) only [coreA, Int.reduceBEq, base_P5, rv3] <;> with_reducible rfl)) | (with_reducible first | refine Tl.brT ?_ | refine Tl.brF ?_ | refine Tl.gd_on ?_ | refine Tl.gd3_on ?_) | ((with_reducible first | apply Tl.brC | apply Tl.gdC | apply Tl.gd3C); focus (simp (disch := omega) only [coreA, Int.reduceBEq, base_P5, rv3] <;> with_reducible rfl)))
        refine Tl.store' S3 1 rfl sz42 rfl rfl (by simp [zrow, Value.cells, crow]) fun h4 S4 k4 => ?_
        exact second { z with mn := v } h4 unk S4 hk
      · have e1 : (if z.mn.k = 0 ∨ v.cmp z.mn < 0 then { z with mn := v } else z) = z := if_neg (fun h => h.elim q2 q3)
        simp only [e1] at hk
        repeat (first | (with_reducible apply Tl.val; focus (simp (disch := omega) only [coreA, Int.reduceBEq, base_P5] <;> with_reducible rfl)) | (with_reducible first | refine Tl.brT ?_ | refine Tl.brF ?_ | refine Tl.gd_on ?_ | refine Tl.gd3_on ?_) | ((with_reducible first | apply Tl.brC | apply Tl.gdC | apply Tl.gd3C); focus (simp (disch := omega) only [coreA, Int.reduceBEq, base_P5] <;> with_reducible rfl)))
        exact second z h3 unk S3 hk
end Go.Proofs.Ytmhgihjmhmihpaa.Sh
