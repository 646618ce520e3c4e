/- What zones tell of predicates is so of rows that lie within them; wider zones tell no more. -/
import Derived.Test.YtmhgihjmhmihpaaSzVl
import Derived.Test.YtmhgihjmhmihpaaSzVm
set_option linter.unusedVariables false
set_option linter.unusedSimpArgs false
set_option maxRecDepth 100000
namespace Go.Proofs.Ytmhgihjmhmihpaa.Sh
open Go Go.RowKit Go.Proofs.Ev
/-! ### Zones of columns -/
def zstep (z : ZoneD) (v : CellD) : ZoneD :=
  if v.k = 0 then { z with nul := z.nul + 1 }
  else
    let z1 := if z.mn.k = 0 ∨ v.cmp z.mn < 0 then { z with mn := v } else z
    if z1.mx.k = 0 ∨ v.cmp z1.mx > 0 then { z1 with mx := v } else z1
def colZ (n : Nat) (vals : List CellD) : ZoneD := vals.foldl zstep ⟨n, 0, cellZ, cellZ⟩
theorem cmp_le_flip {a b : CellD} : a.cmp b ≤ 0 ↔ b.cmp a ≥ 0 := by rw [a.cmp_anti b]; omega
theorem cmp_refl (a : CellD) : a.cmp a = 0 := (a.cmp_zero a).2 rfl
/-- What is so of a zone and the cells it was told of. -/
structure ZI (z : ZoneD) (vals : List CellD) : Prop where
  both : z.mn.k = 0 ↔ z.mx.k = 0
  low : ∀ v ∈ vals, v.k ≠ 0 → z.mn.k ≠ 0 ∧ z.mn.cmp v ≤ 0 ∧ v.cmp z.mx ≤ 0
  ends : z.mn.k ≠ 0 → z.mn.cmp z.mx ≤ 0
  nuls : z.nul = ((vals.filter fun v => decide (v.k = 0)).length : Nat)
theorem ZI.step {z : ZoneD} {vals : List CellD} (I : ZI z vals) (v : CellD) : ZI (zstep z v) (vals ++ [v]) := by
  unfold zstep
  by_cases q : v.k = 0
  · rw [if_pos q]
    refine ⟨I.both, fun w hw hk => ?_, I.ends, ?_⟩
    · rcases List.mem_append.1 hw with hw | hw
      · exact I.low w hw hk
      · simp at hw; subst hw; exact absurd q hk
    · show z.nul + 1 = _
      rw [I.nuls, List.filter_append]
      simp [q]
  · rw [if_neg q]
    have hn : ∀ z' : ZoneD, z'.nul = z.nul → z'.nul = (((vals ++ [v]).filter fun v => decide (v.k = 0)).length : Nat) := fun z' e => by
      rw [e, I.nuls, List.filter_append]
      simp [q]
    by_cases h0 : z.mn.k = 0
    · have hx0 := I.both.1 h0
      have hall : ∀ w ∈ vals, w.k = 0 := fun w hw => by
        by_cases hk : w.k = 0
        · exact hk
        · exact absurd h0 (I.low w hw hk).1
      simp only [h0, true_or, if_true, hx0]
      refine ⟨⟨fun h => absurd h q, fun h => absurd h q⟩, fun w hw hk => ?_, fun _ => ?_, hn _ rfl⟩
      · rcases List.mem_append.1 hw with hw | hw
        · exact absurd (hall w hw) hk
        · simp at hw; subst hw
          exact ⟨q, by rw [cmp_refl]; omega, by rw [cmp_refl]; omega⟩
      · show v.cmp v ≤ 0
        rw [cmp_refl]; omega
    · have hx0 : ¬ z.mx.k = 0 := fun h => h0 (I.both.2 h)
      have he := I.ends h0
      by_cases h1 : v.cmp z.mn < 0
      · have h2 : ¬ v.cmp z.mx > 0 := by
          have := CellD.cmp_trans (show v.cmp z.mn ≤ 0 by omega) he
          omega
        simp only [h0, h1, false_or, if_true, hx0, h2, if_false]
        refine ⟨⟨fun h => absurd h q, fun h => absurd h hx0⟩, fun w hw hk => ?_, fun _ => ?_, hn _ rfl⟩
        · rcases List.mem_append.1 hw with hw | hw
          · obtain ⟨a, b, c⟩ := I.low w hw hk
            exact ⟨q, CellD.cmp_trans (show v.cmp z.mn ≤ 0 by omega) b, c⟩
          · simp at hw
            rw [hw]
            exact ⟨q, by rw [cmp_refl]; omega, (by omega : v.cmp z.mx ≤ 0)⟩
        · show v.cmp z.mx ≤ 0
          omega
      · by_cases h2 : v.cmp z.mx > 0
        · simp only [h0, h1, false_or, if_false, hx0, h2, if_true]
          refine ⟨⟨fun h => absurd h h0, fun h => absurd h q⟩, fun w hw hk => ?_, fun _ => ?_, hn _ rfl⟩
          · rcases List.mem_append.1 hw with hw | hw
            · obtain ⟨a, b, c⟩ := I.low w hw hk
              exact ⟨h0, b, CellD.cmp_trans c (cmp_le_flip.2 (by omega) : z.mx.cmp v ≤ 0)⟩
            · simp at hw
              rw [hw]
              exact ⟨h0, (cmp_le_flip.2 (by omega) : z.mn.cmp v ≤ 0), by rw [cmp_refl]; omega⟩
          · show z.mn.cmp v ≤ 0
            rw [cmp_le_flip]; omega
        · simp only [h0, h1, false_or, if_false, hx0, h2]
          refine ⟨I.both, fun w hw hk => ?_, I.ends, hn _ rfl⟩
          rcases List.mem_append.1 hw with hw | hw
          · exact I.low w hw hk
          · simp at hw
            rw [hw]
            exact ⟨h0, (cmp_le_flip.2 (by omega) : z.mn.cmp v ≤ 0), by omega⟩
theorem ZI.fold (l : List CellD) : ∀ {z : ZoneD} {vals : List CellD}, ZI z vals → ZI (l.foldl zstep z) (vals ++ l) := by
  induction l with
  | nil => intro z vals I; rw [List.append_nil]; exact I
  | cons a l ih =>
    intro z vals I
    have := ih (I.step a)
    rw [List.append_assoc] at this
    exact this
theorem ZI.init (n : Nat) : ZI ⟨n, 0, cellZ, cellZ⟩ [] := ⟨Iff.rfl, fun v hv => (by cases hv), fun h => absurd rfl h, rfl⟩
theorem colZ_ok (n : Nat) (vals : List CellD) : ZI (colZ n vals) vals := by
  have := ZI.fold vals (ZI.init n)
  rwa [List.nil_append] at this
theorem zstep_cnt (z : ZoneD) (v : CellD) : (zstep z v).cnt = z.cnt := by
  unfold zstep
  simp only
  repeat' split
  all_goals rfl
theorem colZ_cnt (n : Nat) (vals : List CellD) : (colZ n vals).cnt = n := by
  have key : ∀ (l : List CellD) (z : ZoneD), (l.foldl zstep z).cnt = z.cnt := by
    intro l
    induction l with
    | nil => intro z; rfl
    | cons a l ih => intro z; rw [List.foldl_cons, ih, zstep_cnt]
  exact key vals _
/-- Wider. -/
structure Wider (z w : ZoneD) : Prop where
  mn : z.mn.k ≠ 0 → w.mn.k ≠ 0 ∧ w.mn.cmp z.mn ≤ 0
  mx : z.mn.k ≠ 0 → z.mx.cmp w.mx ≤ 0
theorem Wider.refl (z : ZoneD) : Wider z z := ⟨fun h => ⟨h, by rw [cmp_refl]; omega⟩, fun h => by rw [cmp_refl]; omega⟩
theorem Wider.trans {a b c : ZoneD} (h1 : Wider a b) (h2 : Wider b c) : Wider a c :=
  ⟨fun h => ⟨(h2.mn (h1.mn h).1).1, CellD.cmp_trans (h2.mn (h1.mn h).1).2 (h1.mn h).2⟩, fun h => CellD.cmp_trans (h1.mx h) (h2.mx (h1.mn h).1)⟩
theorem wider_step {z : ZoneD} (both : z.mn.k = 0 ↔ z.mx.k = 0) (v : CellD) : Wider z (zstep z v) := by
  unfold zstep
  by_cases q : v.k = 0
  · rw [if_pos q]; exact ⟨(Wider.refl z).mn, (Wider.refl z).mx⟩
  · rw [if_neg q]
    constructor
    · intro h
      have hx : ¬ z.mx.k = 0 := fun h' => h (both.2 h')
      by_cases h1 : v.cmp z.mn < 0
      · simp only [h1, or_true, if_true, hx, false_or]
        split
        · exact ⟨q, (by omega : v.cmp z.mn ≤ 0)⟩
        · exact ⟨q, (by omega : v.cmp z.mn ≤ 0)⟩
      · simp only [h1, or_false, h, if_false, hx, false_or]
        split
        · exact ⟨h, by rw [cmp_refl]; omega⟩
        · exact ⟨h, by rw [cmp_refl]; omega⟩
    · intro h
      have hx : ¬ z.mx.k = 0 := fun h' => h (both.2 h')
      by_cases h1 : v.cmp z.mn < 0
      · simp only [h1, or_true, if_true, hx, false_or]
        split
        · rename_i h2
          show z.mx.cmp v ≤ 0
          rw [cmp_le_flip]; omega
        · show z.mx.cmp z.mx ≤ 0
          rw [cmp_refl]; omega
      · simp only [h1, or_false, h, if_false, hx, false_or]
        split
        · rename_i h2
          show z.mx.cmp v ≤ 0
          rw [cmp_le_flip]; omega
        · show z.mx.cmp z.mx ≤ 0
          rw [cmp_refl]; omega
theorem wider_fold (l : List CellD) : ∀ {z : ZoneD} {vals : List CellD}, ZI z vals → Wider z (l.foldl zstep z) := by
  induction l with
  | nil => intro z vals I; exact Wider.refl z
  | cons a l ih =>
    intro z vals I
    exact (wider_step I.both a).trans (ih (I.step a))
theorem wider_colZ (n m : Nat) (a b : List CellD) : Wider (colZ n a) (colZ m (a ++ b)) := by
  have e : ∀ (l : List CellD) (z z' : ZoneD), z.nul = z'.nul → z.mn = z'.mn → z.mx = z'.mx → (l.foldl zstep z).mn = (l.foldl zstep z').mn ∧ (l.foldl zstep z).mx = (l.foldl zstep z').mx := by
    intro l
    induction l with
    | nil => intro z z' _ h1 h2; exact ⟨h1, h2⟩
    | cons a l ih =>
      intro z z' h0 h1 h2
      refine ih _ _ ?_ ?_ ?_ <;> (unfold zstep; simp only [h1]; repeat' split) <;> simp_all
  have h1 : colZ m (a ++ b) = b.foldl zstep (colZ m a) := by unfold colZ; rw [List.foldl_append]
  obtain ⟨e1, e2⟩ := e a ⟨n, 0, cellZ, cellZ⟩ ⟨m, 0, cellZ, cellZ⟩ rfl rfl rfl
  have w := wider_fold b (colZ_ok m a)
  rw [h1]
  have e1 : (colZ n a).mn = (colZ m a).mn := e1
  have e2 : (colZ n a).mx = (colZ m a).mx := e2
  exact ⟨fun h => by rw [e1] at h ⊢; exact w.mn h, fun h => by rw [e1] at h; rw [e2]; exact w.mx h⟩
theorem filter_all {l : List CellD} : (l.filter fun v => decide (v.k = 0)).length = l.length ↔ ∀ v ∈ l, v.k = 0 := by
  induction l with
  | nil => simp
  | cons a l ih =>
    by_cases q : a.k = 0
    · simp [List.filter_cons, q, ih]
    · simp only [List.filter_cons, q, decide_false, Bool.false_eq_true, if_false, List.length_cons, List.mem_cons, forall_eq_or_imp, false_and, iff_false]
      have := List.length_filter_le (fun v : CellD => decide (v.k = 0)) l
      omega
theorem filter_none {l : List CellD} : (l.filter fun v => decide (v.k = 0)).length = 0 ↔ ∀ v ∈ l, v.k ≠ 0 := by
  rw [List.length_eq_zero_iff, List.filter_eq_nil_iff]
  simp
/-! ### What is told of a row is so -/
def Sound (t : Int) (b : Bool) : Prop := (t = 1 → b = false) ∧ (t = 3 → b = true) ∧ (1 ≤ t ∧ t ≤ 3)
theorem toldI_cases (a b : Bool) : (toldI a b = 1 ∧ a = true) ∨ (toldI a b = 3 ∧ a = false ∧ b = true) ∨ (toldI a b = 2 ∧ a = false ∧ b = false) := by
  cases a <;> cases b <;> simp [toldI]
theorem leaf_sound {nd : NodeD} (ho : 2 ≤ nd.op ∧ nd.op ≤ 5) {vals : List CellD} {v : CellD} (hv : v ∈ vals) : Sound (zoneC nd.op ((colZ vals.length vals).mn.cmp nd.val) ((colZ vals.length vals).mx.cmp nd.val) (decide ((colZ vals.length vals).mn.k = 0)) (decide ((colZ vals.length vals).nul = 0)) (decide ((colZ vals.length vals).nul = (colZ vals.length vals).cnt)))
    (if nd.op = 5 then v.k == 0 else v.k != 0 && ordB nd.op (v.cmp nd.val)) := by
  have I := colZ_ok vals.length vals
  have hc := colZ_cnt vals.length vals
  generalize colZ vals.length vals = z at I hc ⊢
  have n0 : z.nul = 0 → v.k ≠ 0 := fun h => by
    have := I.nuls
    exact filter_none.1 (by omega) v hv
  have n1 : z.nul = z.cnt → v.k = 0 := fun h => by
    have := I.nuls
    exact filter_all.1 (by omega) v hv
  by_cases hk : v.k = 0
  · have e1 : (v.k == 0) = true := by simp [hk]
    have e2 : (v.k != 0) = false := by simp [hk]
    have f0 : decide (z.nul = 0) = false := decide_eq_false fun h => n0 h hk
    rw [e1, e2, f0]
    unfold zoneC
    by_cases o2 : nd.op = 2
    · rw [if_pos o2, if_neg (by omega), Bool.false_and, Bool.false_and]
      rcases toldI_cases (decide (z.mn.k = 0) || (decide (z.mn.cmp nd.val > 0) || decide (z.mx.cmp nd.val < 0))) false with ⟨e, _⟩ | ⟨e, _, h⟩ | ⟨e, _⟩
      · rw [e]; exact ⟨fun _ => rfl, fun h => by omega, by omega⟩
      · cases h
      · rw [e]; exact ⟨fun h => by omega, fun h => by omega, by omega⟩
    rw [if_neg o2]
    by_cases o3 : nd.op = 3
    · rw [if_pos o3, if_neg (by omega), Bool.false_and, Bool.false_and]
      rcases toldI_cases (decide (z.mn.k = 0) || decide (z.mn.cmp nd.val ≥ 0)) false with ⟨e, _⟩ | ⟨e, _, h⟩ | ⟨e, _⟩
      · rw [e]; exact ⟨fun _ => rfl, fun h => by omega, by omega⟩
      · cases h
      · rw [e]; exact ⟨fun h => by omega, fun h => by omega, by omega⟩
    rw [if_neg o3]
    by_cases o4 : nd.op = 4
    · rw [if_pos o4, if_neg (by omega), Bool.false_and, Bool.false_and]
      rcases toldI_cases (decide (z.mn.k = 0) || decide (z.mx.cmp nd.val ≤ 0)) false with ⟨e, _⟩ | ⟨e, _, h⟩ | ⟨e, _⟩
      · rw [e]; exact ⟨fun _ => rfl, fun h => by omega, by omega⟩
      · cases h
      · rw [e]; exact ⟨fun h => by omega, fun h => by omega, by omega⟩
    rw [if_neg o4, if_pos (by omega)]
    rcases toldI_cases false (decide (z.nul = z.cnt)) with ⟨_, h⟩ | ⟨e, _⟩ | ⟨e, _⟩
    · cases h
    · rw [e]; exact ⟨fun h => by omega, fun _ => rfl, by omega⟩
    · rw [e]; exact ⟨fun h => by omega, fun h => by omega, by omega⟩
  · have e1 : (v.k == 0) = false := by simp [hk]
    have e2 : (v.k != 0) = true := by simp [hk]
    obtain ⟨i1, i2, i3⟩ := I.low v hv hk
    have m0 : decide (z.mn.k = 0) = false := decide_eq_false i1
    have c0 : decide (z.nul = z.cnt) = false := decide_eq_false fun h => hk (n1 h)
    rw [e1, e2, m0, c0, Bool.true_and]
    have lo : z.mn.cmp nd.val > 0 → v.cmp nd.val > 0 := fun h => by
      by_cases q : v.cmp nd.val ≤ 0
      · have := CellD.cmp_trans i2 q; omega
      · omega
    have lo2 : z.mn.cmp nd.val ≥ 0 → v.cmp nd.val ≥ 0 := fun h => by
      have h1 : nd.val.cmp z.mn ≤ 0 := by rw [cmp_le_flip]; exact h
      have := CellD.cmp_trans h1 i2
      rw [cmp_le_flip] at this
      exact this
    have hi : z.mx.cmp nd.val < 0 → v.cmp nd.val < 0 := fun h => by
      by_cases q : v.cmp nd.val < 0
      · exact q
      · have h1 : nd.val.cmp v ≤ 0 := by rw [cmp_le_flip]; omega
        have := CellD.cmp_trans h1 i3
        rw [cmp_le_flip] at this
        omega
    have hi2 : z.mx.cmp nd.val ≤ 0 → v.cmp nd.val ≤ 0 := fun h => CellD.cmp_trans i3 h
    unfold zoneC ordB
    simp only [Bool.false_or]
    generalize v.cmp nd.val = c at *
    generalize z.mn.cmp nd.val = low at *
    generalize z.mx.cmp nd.val = high at *
    by_cases o2 : nd.op = 2
    · simp only [o2, if_true, Int.reduceEq, if_false]
      rcases toldI_cases (decide (low > 0) || decide (high < 0)) (decide (z.nul = 0) && (decide (low = 0) && decide (high = 0))) with ⟨e, h⟩ | ⟨e, _, h⟩ | ⟨e, _⟩
      · rw [e]
        rw [Bool.or_eq_true, decide_eq_true_iff, decide_eq_true_iff] at h
        refine ⟨fun _ => ?_, fun h => by omega, by omega⟩
        rw [beq_eq_false_iff_ne]
        rcases h with h | h
        · have := lo h; omega
        · have := hi h; omega
      · rw [e]
        simp only [Bool.and_eq_true, decide_eq_true_iff] at h
        exact ⟨fun h => by omega, fun _ => by rw [beq_iff_eq]; have := lo2 (by omega); have := hi2 (by omega); omega, by omega⟩
      · rw [e]; exact ⟨fun h => by omega, fun h => by omega, by omega⟩
    by_cases o3 : nd.op = 3
    · simp only [o3, if_true, Int.reduceEq, if_false]
      rcases toldI_cases (decide (low ≥ 0)) (decide (z.nul = 0) && decide (high < 0)) with ⟨e, h⟩ | ⟨e, _, h⟩ | ⟨e, _⟩
      · rw [e]
        rw [decide_eq_true_iff] at h
        exact ⟨fun _ => decide_eq_false (by have := lo2 h; omega), fun h => by omega, by omega⟩
      · rw [e]
        simp only [Bool.and_eq_true, decide_eq_true_iff] at h
        exact ⟨fun h => by omega, fun _ => decide_eq_true (hi h.2), by omega⟩
      · rw [e]; exact ⟨fun h => by omega, fun h => by omega, by omega⟩
    by_cases o4 : nd.op = 4
    · simp only [o4, if_true, Int.reduceEq, if_false]
      rcases toldI_cases (decide (high ≤ 0)) (decide (z.nul = 0) && decide (low > 0)) with ⟨e, h⟩ | ⟨e, _, h⟩ | ⟨e, _⟩
      · rw [e]
        rw [decide_eq_true_iff] at h
        exact ⟨fun _ => decide_eq_false (by have := hi2 h; omega), fun h => by omega, by omega⟩
      · rw [e]
        simp only [Bool.and_eq_true, decide_eq_true_iff] at h
        exact ⟨fun h => by omega, fun _ => decide_eq_true (lo h.2), by omega⟩
      · rw [e]; exact ⟨fun h => by omega, fun h => by omega, by omega⟩
    rw [if_neg o2, if_neg o3, if_neg o4, if_pos (by omega)]
    rcases toldI_cases (decide (z.nul = 0)) false with ⟨e, _⟩ | ⟨_, _, h⟩ | ⟨e, _⟩
    · rw [e]; exact ⟨fun _ => rfl, fun h => by omega, by omega⟩
    · cases h
    · rw [e]; exact ⟨fun h => by omega, fun h => by omega, by omega⟩
theorem every_iff {ps : List Int} {w : Int} : everyB ps w = true ↔ ∀ p ∈ ps, p = w := by
  unfold everyB
  rw [Bool.not_eq_true', List.any_eq_false]
  simp
theorem all2_contains1 {ps : List Int} {bs : List Bool} (A : All2 Sound ps bs) (h : ps.contains (1 : Int) = true) : bs.contains false = true := by
  rw [List.contains_iff_mem] at h ⊢
  induction ps generalizing bs with
  | nil => cases h
  | cons p ps ih =>
    cases bs with
    | nil => exact A.elim
    | cons b bs =>
      rcases List.mem_cons.1 h with h | h
      · rw [← A.1.1 h.symm]; exact List.mem_cons_self ..
      · exact List.mem_cons_of_mem _ (ih A.2 h)
theorem all2_contains3 {ps : List Int} {bs : List Bool} (A : All2 Sound ps bs) (h : ps.contains (3 : Int) = true) : bs.contains true = true := by
  rw [List.contains_iff_mem] at h ⊢
  induction ps generalizing bs with
  | nil => cases h
  | cons p ps ih =>
    cases bs with
    | nil => exact A.elim
    | cons b bs =>
      rcases List.mem_cons.1 h with h | h
      · rw [← A.1.2.1 h.symm]; exact List.mem_cons_self ..
      · exact List.mem_cons_of_mem _ (ih A.2 h)
theorem all2_every3 {ps : List Int} {bs : List Bool} (A : All2 Sound ps bs) (h : everyB ps 3 = true) : bs.contains false = false := by
  rw [every_iff] at h
  induction ps generalizing bs with
  | nil => cases bs with
    | nil => rfl
    | cons b bs => exact A.elim
  | cons p ps ih =>
    cases bs with
    | nil => exact A.elim
    | cons b bs =>
      rw [List.contains_cons, ih A.2 fun q hq => h q (List.mem_cons_of_mem _ hq), A.1.2.1 (h p (List.mem_cons_self ..))]
      rfl
theorem all2_every1 {ps : List Int} {bs : List Bool} (A : All2 Sound ps bs) (h : everyB ps 1 = true) : bs.contains true = false := by
  rw [every_iff] at h
  induction ps generalizing bs with
  | nil => cases bs with
    | nil => rfl
    | cons b bs => exact A.elim
  | cons p ps ih =>
    cases bs with
    | nil => exact A.elim
    | cons b bs =>
      rw [List.contains_cons, ih A.2 fun q hq => h q (List.mem_cons_of_mem _ hq), A.1.1 (h p (List.mem_cons_self ..))]
      rfl
/-- Zones of all columns. -/
def zonesL (n : Nat) (rows : List (List CellD)) : List ZoneD := (List.range n).map fun c => colZ rows.length (rows.map fun r => (r[c]?).getD cellZ)
theorem zones_at {n c : Nat} {rows : List (List CellD)} (h : c < n) : (zonesL n rows)[c]? = some (colZ rows.length (rows.map fun r => (r[c]?).getD cellZ)) := by
  unfold zonesL
  rw [List.getElem?_map, List.getElem?_range h]
  rfl
theorem node_sound {n : Nat} {rows : List (List CellD)} {row : List CellD} (hr : row ∈ rows) (hl : row.length = n) {nd : NodeD} {ps : List Int} {bs : List Bool} (A : All2 Sound ps bs) : Sound (tellZ (zonesL n rows) nd ps) (tellB row nd bs) := by
  unfold tellZ tellB
  by_cases q : 2 ≤ nd.op ∧ nd.op ≤ 5
  · rw [if_pos q, if_pos q]
    unfold zoneB leafB
    by_cases q0 : 0 ≤ nd.col
    · rw [if_pos q0, if_pos q0]
      by_cases q1 : nd.col.toNat < n
      · obtain ⟨v, ev⟩ : ∃ v, row[nd.col.toNat]? = some v := ⟨_, List.getElem?_eq_getElem (by omega)⟩
        rw [zones_at q1, ev]
        simp only
        have hv : v ∈ rows.map fun r => (r[nd.col.toNat]?).getD cellZ := List.mem_map.2 ⟨row, hr, by rw [ev]; rfl⟩
        have := leaf_sound q hv
        rw [List.length_map] at this
        exact this
      · rw [List.getElem?_eq_none (show (zonesL n rows).length ≤ _ by simp [zonesL]; omega), List.getElem?_eq_none (by omega)]
        exact ⟨fun h => by simp at h, fun h => by simp at h, by simp⟩
    · rw [if_neg q0, if_neg q0]
      exact ⟨fun h => by simp at h, fun h => by simp at h, by simp⟩
  · rw [if_neg q, if_neg q]
    by_cases o1 : nd.op = 1
    · rw [if_pos o1, if_pos o1]
      exact ⟨fun h => by simp at h, fun _ => rfl, by simp⟩
    rw [if_neg o1, if_neg o1]
    by_cases o6 : nd.op = 6
    · rw [if_pos o6, if_pos o6]
      rcases toldI_cases (ps.contains 1) (everyB ps 3) with ⟨e, h⟩ | ⟨e, _, h⟩ | ⟨e, _⟩
      · rw [e, all2_contains1 A h]; exact ⟨fun _ => rfl, fun h => by omega, by omega⟩
      · rw [e, all2_every3 A h]; exact ⟨fun h => by omega, fun _ => rfl, by omega⟩
      · rw [e]; exact ⟨fun h => by omega, fun h => by omega, by omega⟩
    rw [if_neg o6, if_neg o6]
    by_cases o7 : nd.op = 7
    · rw [if_pos o7, if_pos o7]
      cases h3 : ps.contains (3 : Int) with
      | true =>
        rw [if_pos rfl, all2_contains3 A h3]
        exact ⟨fun h => by omega, fun _ => rfl, by omega⟩
      | false =>
        rw [if_neg (by simp)]
        rcases toldI_cases (everyB ps 1) false with ⟨e, h⟩ | ⟨_, _, h⟩ | ⟨e, _⟩
        · rw [e, all2_every1 A h]; exact ⟨fun _ => rfl, fun h => by omega, by omega⟩
        · cases h
        · rw [e]; exact ⟨fun h => by omega, fun h => by omega, by omega⟩
    rw [if_neg o7, if_neg o7]
    by_cases o8 : nd.op = 8
    · rw [if_pos o8, if_pos o8]
      rcases toldI_cases (everyB ps 3) (ps.contains 1) with ⟨e, h⟩ | ⟨e, _, h⟩ | ⟨e, _⟩
      · rw [e, all2_every3 A h]; exact ⟨fun _ => rfl, fun h => by omega, by omega⟩
      · rw [e, all2_contains1 A h]; exact ⟨fun h => by omega, fun _ => rfl, by omega⟩
      · rw [e]; exact ⟨fun h => by omega, fun h => by omega, by omega⟩
    rw [if_neg o8, if_neg o8]
    exact ⟨fun h => by omega, fun h => by omega, by omega⟩
/-! ### Along the nodes -/
theorem goneL_len' {α : Type} {d : α} {t : NodeD → List α → α} (l : List NodeD) : ∀ out : List α, (goneL d t l out).length = out.length + l.length := by
  induction l with
  | nil => intro out; rfl
  | cons a l ih => intro out; rw [goneL, ih]; simp; omega
theorem All2.at {α γ : Type} {R : α → γ → Prop} : ∀ {l : List α} {m : List γ}, All2 R l m → ∀ {d : α} {d' : γ}, R d d' → ∀ n : Int, R (lookB d l n) (lookB d' m n)
  | l, m, A, d, d', hd, n => by
    unfold lookB
    split
    · cases hm : m[n.toNat]? with
      | none =>
        rw [List.getElem?_eq_none (by rw [A.len]; exact List.getElem?_eq_none_iff.1 hm)]
        exact hd
      | some b =>
        obtain ⟨a, ha, hr⟩ := A.get hm
        rw [ha]
        exact hr
    · exact hd
theorem gone_rel {α γ : Type} {R : α → γ → Prop} {d : α} {d' : γ} {t : NodeD → List α → α} {t' : NodeD → List γ → γ} (hd : R d d') (ht : ∀ nd ps qs, All2 R ps qs → R (t nd ps) (t' nd qs)) (l : List NodeD) :
    ∀ {o : List α} {o' : List γ}, All2 R o o' → All2 R (goneL d t l o) (goneL d' t' l o') := by
  induction l with
  | nil => intro o o' A; exact A
  | cons nd l ih =>
    intro o o' A
    refine ih (A.snoc (ht nd _ _ ?_))
    have key : ∀ ns : List Int, All2 R (ns.map (lookB d o)) (ns.map (lookB d' o')) := by
      intro ns
      induction ns with
      | nil => trivial
      | cons n ns ih => exact ⟨A.at hd n, ih⟩
    exact key nd.parts
theorem all2_last {α γ : Type} {R : α → γ → Prop} {l : List α} {m : List γ} (A : All2 R l m) (hne : l ≠ []) (d : α) (d' : γ) : R (l.getLast?.getD d) (m.getLast?.getD d') := by
  have hl := A.len
  have hp := List.length_pos_iff.2 hne
  obtain ⟨b, hb⟩ : ∃ b, m[m.length - 1]? = some b := ⟨_, List.getElem?_eq_getElem (by omega)⟩
  obtain ⟨a, ha, hr⟩ := A.get hb
  rw [List.getLast?_eq_getElem?, List.getLast?_eq_getElem?, hl, ha, hb]
  exact hr
/-- What is told of zones is so of each of the rows. -/
theorem zone_sound {n : Nat} {rows : List (List CellD)} {row : List CellD} (hr : row ∈ rows) (hl : row.length = n) (l : List NodeD) : Sound (zoneL (zonesL n rows) l) (holdsB row l) := by
  unfold zoneL holdsB
  by_cases q : l = []
  · rw [if_pos q, if_pos q]; exact ⟨fun h => by omega, fun _ => rfl, by omega⟩
  · rw [if_neg q, if_neg q]
    have A := gone_rel (R := Sound) (d := (2 : Int)) (d' := false) (t := tellZ (zonesL n rows)) (t' := tellB row) ⟨fun h => by omega, fun h => by omega, by omega⟩ (fun nd ps qs A => node_sound hr hl A) l (o := []) (o' := []) trivial
    refine all2_last A (fun h => q ?_) 0 false
    have := congrArg List.length h
    rw [goneL_len'] at this
    simp at this
    exact this
end Go.Proofs.Ytmhgihjmhmihpaa.Sh
