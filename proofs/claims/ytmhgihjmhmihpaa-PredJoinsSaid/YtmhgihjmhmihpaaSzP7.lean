/- What is joined of predicates that may be may be; its columns are theirs. -/
import Derived.Test.YtmhgihjmhmihpaaSzP1
import Derived.Test.YtmhgihjmhmihpaaSzVk
import Derived.Test.YtmhgihjmhmihpaaSzVn
set_option linter.unusedVariables false
set_option linter.unusedSimpArgs false
set_option maxRecDepth 100000
namespace Go.Proofs.Ytmhgihjmhmihpaa.Sh
open Go Go.RowKit Go.Proofs.Ev
/-! ### How often -/
def cnt (l : List Int) (n : Int) : Int := (l.filter fun x => decide (x = n)).length
theorem cnt_nil (n : Int) : cnt [] n = 0 := rfl
theorem cnt_cons (a : Int) (l : List Int) (n : Int) : cnt (a :: l) n = (if a = n then 1 else 0) + cnt l n := by
  unfold cnt
  rw [List.filter_cons]
  by_cases q : a = n
  · simp [q]; omega
  · simp [q]
theorem cnt_app (l m : List Int) (n : Int) : cnt (l ++ m) n = cnt l n + cnt m n := by
  unfold cnt
  rw [List.filter_append, List.length_append]
  omega
theorem cnt_none {l : List Int} {n : Int} (h : n ∉ l) : cnt l n = 0 := by
  induction l with
  | nil => rfl
  | cons a l ih =>
    rw [cnt_cons, ih (fun q => h (List.mem_cons_of_mem _ q)), if_neg (fun q => h (by rw [q]; exact List.mem_cons_self ..))]
    rfl
theorem cnt_shift (l : List Int) (k n : Int) : cnt (l.map (· + k)) n = cnt l (n - k) := by
  induction l with
  | nil => rfl
  | cons a l ih =>
    rw [List.map_cons, cnt_cons, cnt_cons, ih]
    by_cases q : a + k = n
    · rw [if_pos q, if_pos (by omega)]
    · rw [if_neg q, if_neg (by omega)]
theorem usePs_iff (i : Nat) : ∀ (ns u u' : List Int), usePs i ns u = some u' → (∀ n ∈ ns, 0 ≤ n ∧ n < i) ∧ u'.length = u.length ∧ ∀ t, t < u.length → u'[t]? = (u[t]?).map (· + cnt ns t)
  | [], u, u', h => by
    cases h
    exact ⟨fun n hn => (by cases hn), rfl, fun t ht => by simp [cnt_nil]⟩
  | n :: ns, u, u', h => by
    unfold usePs at h
    split at h
    · rename_i hn
      obtain ⟨h1, h2, h3⟩ := usePs_iff i ns _ u' h
      rw [List.length_set] at h2 h3
      refine ⟨fun x hx => ?_, h2, fun t ht => ?_⟩
      · rcases List.mem_cons.1 hx with rfl | hx
        · exact hn
        · exact h1 x hx
      · rw [h3 t ht, cnt_cons, List.getElem?_set]
        by_cases q : n.toNat = t
        · subst q
          rw [if_pos rfl, if_pos ht, if_pos (by omega)]
          obtain ⟨w, hw⟩ : ∃ w, u[n.toNat]? = some w := ⟨_, List.getElem?_eq_getElem ht⟩
          rw [hw]
          simp
          omega
        · rw [if_neg q, if_neg (by omega)]
          simp
    · cases h
theorem usePs_some (i : Nat) : ∀ (ns u : List Int), (∀ n ∈ ns, 0 ≤ n ∧ n < i) → ∃ u', usePs i ns u = some u'
  | [], u, _ => ⟨u, rfl⟩
  | n :: ns, u, h => by
    unfold usePs
    rw [if_pos (h n (List.mem_cons_self ..))]
    exact usePs_some i ns _ fun x hx => h x (List.mem_cons_of_mem _ hx)
def validF : Nat → List NodeD → Prop
  | _, [] => True
  | i, nd :: l => (∀ n ∈ nd.parts, 0 ≤ n ∧ n < i) ∧ validF (i + 1) l
def allParts (l : List NodeD) : List Int := l.flatMap (·.parts)
theorem checkF_iff (cols : List ColD) : ∀ (l : List NodeD) (i : Nat) (u u' : List Int), checkF cols i l u = some u' → (∀ nd ∈ l, nodeOk cols nd = true) ∧ validF i l ∧ u'.length = u.length ∧ ∀ t, t < u.length → u'[t]? = (u[t]?).map (· + cnt (allParts l) t)
  | [], i, u, u', h => by
    cases h
    exact ⟨fun n hn => (by cases hn), trivial, rfl, fun t ht => by simp [allParts, cnt_nil]⟩
  | nd :: l, i, u, u', h => by
    unfold checkF at h
    split at h
    · rename_i hn
      rw [Option.bind_eq_some_iff] at h
      obtain ⟨u1, h1, h2⟩ := h
      obtain ⟨a1, a2, a3⟩ := usePs_iff i nd.parts u u1 h1
      obtain ⟨b1, b2, b3, b4⟩ := checkF_iff cols l (i + 1) u1 u' h2
      refine ⟨fun x hx => ?_, ⟨a1, b2⟩, by omega, fun t ht => ?_⟩
      · rcases List.mem_cons.1 hx with rfl | hx
        · exact hn
        · exact b1 x hx
      · rw [b4 t (by omega), a3 t ht]
        show _ = (u[t]?).map (· + cnt (nd.parts ++ allParts l) t)
        rw [cnt_app, Option.map_map]
        congr 1
        funext z
        simp
        omega
    · cases h
theorem checkF_some (cols : List ColD) : ∀ (l : List NodeD) (i : Nat) (u : List Int), (∀ nd ∈ l, nodeOk cols nd = true) → validF i l → ∃ u', checkF cols i l u = some u'
  | [], i, u, _, _ => ⟨u, rfl⟩
  | nd :: l, i, u, h1, h2 => by
    unfold checkF
    rw [if_pos (h1 nd (List.mem_cons_self ..))]
    obtain ⟨u1, hu⟩ := usePs_some i nd.parts u h2.1
    rw [hu]
    exact checkF_some cols l (i + 1) u1 (fun x hx => h1 x (List.mem_cons_of_mem _ hx)) h2.2
/-- Nodes that may be, each but the last used once. -/
structure Fine (cols : List ColD) (l : List NodeD) : Prop where
  nodes : ∀ nd ∈ l, nodeOk cols nd = true
  valid : validF 0 l
  once : ∀ t : Nat, t + 1 < l.length → cnt (allParts l) t = 1
theorem predOk_iff {cols : List ColD} {l : List NodeD} : predOk cols l = true ↔ colsOk cols = true ∧ l.length ≤ 64 ∧ Fine cols l := by
  unfold predOk
  rw [Bool.and_eq_true, Bool.and_eq_true, decide_eq_true_iff]
  have key : (match checkF cols 0 l (List.replicate l.length 0) with | none => false | some u => !((u.take (l.length - 1)).any fun n => n != 1)) = true ↔ Fine cols l := by
    constructor
    · intro h
      cases hc : checkF cols 0 l (List.replicate l.length 0) with
      | none => rw [hc] at h; cases h
      | some u =>
        rw [hc] at h
        simp only [Bool.not_eq_true', List.any_eq_false] at h
        obtain ⟨a1, a2, a3, a4⟩ := checkF_iff cols l 0 _ u hc
        rw [List.length_replicate] at a3 a4
        refine ⟨a1, a2, fun t ht => ?_⟩
        have e := a4 t (by omega)
        rw [List.getElem?_replicate, if_pos (by omega)] at e
        simp only [Option.map_some, Int.zero_add] at e
        have hm : cnt (allParts l) t ∈ u.take (l.length - 1) := List.mem_iff_getElem?.2 ⟨t, by rw [List.getElem?_take_of_lt (by omega)]; exact e⟩
        have := h _ hm
        simpa using this
    · intro F
      obtain ⟨u, hu⟩ := checkF_some cols l 0 (List.replicate l.length 0) F.nodes F.valid
      obtain ⟨a1, a2, a3, a4⟩ := checkF_iff cols l 0 _ u hu
      rw [List.length_replicate] at a3 a4
      rw [hu]
      simp only [Bool.not_eq_true', List.any_eq_false]
      intro x hx
      obtain ⟨t, ht⟩ := List.mem_iff_getElem?.1 hx
      have hlt : t < l.length - 1 := by
        have := (List.getElem?_eq_some_iff.1 ht).1
        simp at this
        omega
      rw [List.getElem?_take_of_lt hlt, a4 t (by omega), List.getElem?_replicate, if_pos (by omega)] at ht
      simp only [Option.map_some, Int.zero_add, Option.some.injEq] at ht
      rw [← ht, F.once t (by omega)]
      simp
  exact ⟨fun ⟨h1, h2, h3⟩ => ⟨h1, h2, key.1 h3⟩, fun ⟨h1, h2, h3⟩ => ⟨h1, h2, key.2 h3⟩⟩
theorem validF_mem : ∀ (l : List NodeD) (i : Nat), validF i l → ∀ n ∈ allParts l, 0 ≤ n ∧ n + 1 < i + l.length
  | [], i, _, n, hn => by cases hn
  | nd :: l, i, h, n, hn => by
    have hn : n ∈ nd.parts ++ allParts l := hn
    rcases List.mem_append.1 hn with hn | hn
    · have := h.1 n hn
      simp only [List.length_cons]
      omega
    · have := validF_mem l (i + 1) h.2 n hn
      simp only [List.length_cons]
      omega
theorem validF_app : ∀ (l m : List NodeD) (i : Nat), validF i (l ++ m) ↔ validF i l ∧ validF (i + l.length) m
  | [], m, i => by simp [validF]
  | nd :: l, m, i => by
    have := validF_app l m (i + 1)
    simp only [List.cons_append, validF, this, List.length_cons]
    rw [show i + (l.length + 1) = i + 1 + l.length by omega, and_assoc]
theorem validF_shift (k : Nat) : ∀ (l : List NodeD) (i : Nat), validF i l → validF (i + k) (l.map (shiftN k))
  | [], i, _ => trivial
  | nd :: l, i, h => by
    refine ⟨fun n hn => ?_, ?_⟩
    · obtain ⟨x, hx, rfl⟩ := List.mem_map.1 hn
      have := h.1 x hx
      omega
    · have := validF_shift k l (i + 1) h.2
      rw [show i + 1 + k = i + k + 1 by omega] at this
      exact this
theorem parts_shift (k : Nat) : ∀ l : List NodeD, allParts (l.map (shiftN k)) = (allParts l).map (· + (k : Int))
  | [] => rfl
  | nd :: l => by
    show (shiftN k nd).parts ++ allParts (l.map (shiftN k)) = (nd.parts ++ allParts l).map (· + (k : Int))
    rw [parts_shift k l, List.map_append]
    rfl
theorem parts_app (l m : List NodeD) : allParts (l ++ m) = allParts l ++ allParts m := by unfold allParts; rw [List.flatMap_append]
theorem nodeOk_shift (cols : List ColD) (k : Nat) (nd : NodeD) : nodeOk cols (shiftN k nd) = nodeOk cols nd := by
  unfold nodeOk
  have : (shiftN k nd).parts.length = nd.parts.length := by simp [shiftN]
  rw [this]
  rfl
def core (l : List NodeD) : List NodeD := if l = [] then [opN 1] else l
theorem core_len (l : List NodeD) : (core l).length = max 1 l.length := by
  unfold core
  by_cases q : l = []
  · simp [q]
  · have := List.length_pos_iff.2 q
    rw [if_neg q]
    omega
theorem shift0 (l : List NodeD) : l.map (shiftN 0) = l := by
  have : shiftN 0 = id := by
    funext nd
    simp [shiftN]
  rw [this]; simp
theorem join2_eq (op : Int) (a b : List NodeD) : joinL op [a, b] = core a ++ (core b).map (shiftN (core a).length) ++ [{ opN op with parts := [((core a).length : Int) - 1, (((core a).length + (core b).length : Nat) : Int) - 1] }] := by
  unfold core
  by_cases q : a = [] <;> by_cases q2 : b = [] <;> simp [joinL, joinStep, q, q2, shift0, shiftN, opN]
  all_goals omega
theorem core_fine {cols : List ColD} {l : List NodeD} (F : Fine cols l) : Fine cols (core l) := by
  unfold core
  by_cases q : l = []
  · rw [if_pos q]
    refine ⟨fun nd hnd => ?_, ⟨fun n hn => (by cases hn), trivial⟩, fun t ht => by simp at ht⟩
    simp at hnd
    subst hnd
    rfl
  · rw [if_neg q]; exact F
theorem join_fine {cols : List ColD} {op : Int} (ho : op = 6 ∨ op = 7) {a b : List NodeD} (Fa : Fine cols a) (Fb : Fine cols b) : Fine cols (joinL op [a, b]) := by
  have A := core_fine Fa
  have B := core_fine Fb
  have la : 1 ≤ (core a).length := by rw [core_len]; omega
  have lb : 1 ≤ (core b).length := by rw [core_len]; omega
  rw [join2_eq]
  generalize core a = x at *
  generalize core b = y at *
  have va := validF_mem x 0 A.valid
  have vb := validF_mem y 0 B.valid
  refine ⟨fun nd hnd => ?_, ?_, fun t ht => ?_⟩
  · rcases List.mem_append.1 hnd with hnd | hnd
    · rcases List.mem_append.1 hnd with hnd | hnd
      · exact A.nodes nd hnd
      · obtain ⟨m, hm, rfl⟩ := List.mem_map.1 hnd
        rw [nodeOk_shift]
        exact B.nodes m hm
    · simp at hnd
      subst hnd
      rcases ho with rfl | rfl <;> rfl
  · rw [validF_app, validF_app]
    refine ⟨⟨A.valid, ?_⟩, ?_, trivial⟩
    · have := validF_shift x.length y 0 B.valid
      exact this
    · intro n hn
      simp at hn
      rw [List.length_append, List.length_map]
      omega
  · have hl : t < x.length + y.length := by
      simp only [List.length_append, List.length_map, List.length_cons, List.length_nil] at ht
      omega
    rw [parts_app, parts_app, parts_shift, cnt_app, cnt_app, cnt_shift]
    have e3 : cnt (allParts [{ opN op with parts := [(x.length : Int) - 1, ((x.length + y.length : Nat) : Int) - 1] }]) t = (if (x.length : Int) - 1 = t then 1 else 0) + ((if ((x.length + y.length : Nat) : Int) - 1 = t then 1 else 0) + 0) := by
      show cnt ([(x.length : Int) - 1, ((x.length + y.length : Nat) : Int) - 1] ++ []) t = _
      rw [List.append_nil, cnt_cons, cnt_cons, cnt_nil]
    rw [e3]
    by_cases q1 : t + 1 < x.length
    · rw [A.once t q1, cnt_none (l := allParts y) (fun h => by have := vb _ h; omega), if_neg (by omega), if_neg (by omega)]
      rfl
    · rw [cnt_none (l := allParts x) (fun h => by have := va _ h; omega)]
      by_cases q2 : t + 1 = x.length
      · rw [cnt_none (l := allParts y) (fun h => by have := vb _ h; omega), if_pos (by omega), if_neg (by omega)]
        rfl
      · by_cases q3 : t - x.length + 1 < y.length
        · have := B.once (t - x.length) q3
          rw [show ((t : Int) - x.length) = ((t - x.length : Nat) : Int) by omega, this, if_neg (by omega), if_neg (by omega)]
          rfl
        · rw [cnt_none (l := allParts y) (fun h => by have := vb _ h; omega), if_neg (by omega), if_pos (by omega)]
          rfl
theorem join2_len (op : Int) (a b : List NodeD) : (joinL op [a, b]).length = max 1 a.length + max 1 b.length + 1 := by
  rw [join2_eq]
  simp only [List.length_append, List.length_map, List.length_cons, List.length_nil, core_len]
/-! ### Columns -/
theorem compactL_mem {x : Int} : ∀ {l : List Int}, x ∈ compactL l ↔ x ∈ l
  | [] => Iff.rfl
  | [a] => Iff.rfl
  | a :: b :: l => by
    have ih := compactL_mem (x := x) (l := b :: l)
    rw [compactL_cc]
    by_cases q : a = b
    · rw [if_pos q, ih, q]
      simp
    · rw [if_neg q, List.mem_cons, ih, List.mem_cons (l := b :: l)]
theorem compactL_rise : ∀ {l : List Int}, l.Pairwise (· ≤ ·) → (compactL l).Pairwise (· < ·)
  | [], _ => List.Pairwise.nil
  | [a], _ => List.pairwise_singleton ..
  | a :: b :: l, h => by
    have h2 := compactL_rise (List.Pairwise.of_cons h)
    rw [compactL_cc]
    by_cases q : a = b
    · rw [if_pos q]; exact h2
    · rw [if_neg q]
      refine List.pairwise_cons.2 ⟨fun y hy => ?_, h2⟩
      rw [compactL_mem] at hy
      have h3 := List.rel_of_pairwise_cons h (List.mem_cons_self (a := b) (l := l))
      rcases List.mem_cons.1 hy with rfl | hy
      · omega
      · have := List.rel_of_pairwise_cons (List.Pairwise.of_cons h) hy
        omega
theorem sorted_le (l : List Int) : (sortedI l).Pairwise (· ≤ ·) := by
  have := List.pairwise_mergeSort (le := fun x y : Int => decide (x ≤ y)) (fun a b c h1 h2 => by simp at *; omega) (fun a b => by simp; omega) l
  unfold sortedI
  exact this.imp fun h => by simpa using h
theorem colsM_rise (l : List NodeD) : (colsM l).Pairwise (· < ·) := compactL_rise (sorted_le _)
theorem colsM_mem {l : List NodeD} {x : Int} : x ∈ colsM l ↔ ∃ nd ∈ l, isCmp nd = true ∧ nd.col = x := by
  unfold colsM sortedI colsOf
  rw [compactL_mem, List.mem_mergeSort, List.mem_map]
  constructor
  · rintro ⟨nd, h, e⟩
    rw [List.mem_filter] at h
    exact ⟨nd, h.1, h.2, e⟩
  · rintro ⟨nd, h1, h2, e⟩
    exact ⟨nd, List.mem_filter.2 ⟨h1, h2⟩, e⟩
theorem cols_join {op : Int} (ho : op = 6 ∨ op = 7) {a b : List NodeD} {x : Int} : x ∈ colsM (joinL op [a, b]) ↔ x ∈ colsM a ∨ x ∈ colsM b := by
  have hc : ∀ l : List NodeD, (∃ nd ∈ core l, isCmp nd = true ∧ nd.col = x) ↔ ∃ nd ∈ l, isCmp nd = true ∧ nd.col = x := fun l => by
    unfold core
    by_cases q : l = []
    · rw [if_pos q, q]
      constructor
      · rintro ⟨nd, h1, h2, _⟩
        simp at h1
        subst h1
        cases h2
      · rintro ⟨nd, h1, _⟩
        cases h1
    · rw [if_neg q]
  rw [colsM_mem, colsM_mem, colsM_mem, ← hc a, ← hc b, join2_eq]
  constructor
  · rintro ⟨nd, h1, h2, h3⟩
    rcases List.mem_append.1 h1 with h1 | h1
    · rcases List.mem_append.1 h1 with h1 | h1
      · exact .inl ⟨nd, h1, h2, h3⟩
      · obtain ⟨m, hm, rfl⟩ := List.mem_map.1 h1
        exact .inr ⟨m, hm, h2, h3⟩
    · simp at h1
      subst h1
      rcases ho with rfl | rfl <;> cases h2
  · rintro (⟨nd, h1, h2, h3⟩ | ⟨nd, h1, h2, h3⟩)
    · exact ⟨nd, List.mem_append.2 (.inl (List.mem_append.2 (.inl h1))), h2, h3⟩
    · exact ⟨shiftN _ nd, List.mem_append.2 (.inl (List.mem_append.2 (.inr (List.mem_map.2 ⟨nd, h1, rfl⟩)))), h2, h3⟩
theorem cols_range {cols : List ColD} {l : List NodeD} (F : Fine cols l) {x : Int} (h : x ∈ colsM l) : 0 ≤ x ∧ x < cols.length := by
  rw [colsM_mem] at h
  obtain ⟨nd, h1, h2, rfl⟩ := h
  have := F.nodes nd h1
  unfold nodeOk colOk at this
  unfold isCmp at h2
  rw [Bool.and_eq_true, decide_eq_true_iff, decide_eq_true_iff] at h2
  rw [if_pos h2, Bool.and_eq_true, decide_eq_true_iff] at this
  exact this.1
/-! ### Keys of a map -/
def insK (ks : List Int) (x : Int) : List Int := if x ∈ ks then ks else ks ++ [x]
theorem insK_mem {ks : List Int} {x y : Int} : y ∈ insK ks x ↔ y ∈ ks ∨ y = x := by
  unfold insK
  split
  · constructor
    · exact .inl
    · rintro (h | rfl)
      · exact h
      · assumption
  · simp
theorem insK_nodup {ks : List Int} {x : Int} (h : ks.Nodup) : (insK ks x).Nodup := by
  unfold insK
  split
  · exact h
  · rename_i hx
    rw [List.nodup_append]
    exact ⟨h, by simp, fun a ha b hb => by simp at hb; subst hb; rintro rfl; exact hx ha⟩
theorem insL_mem {y : Int} : ∀ (l ks : List Int), y ∈ l.foldl insK ks ↔ y ∈ ks ∨ y ∈ l
  | [], ks => by simp
  | a :: l, ks => by
    rw [List.foldl_cons, insL_mem l, insK_mem, List.mem_cons, or_assoc]
theorem insL_nodup : ∀ (l ks : List Int), ks.Nodup → (l.foldl insK ks).Nodup
  | [], ks, h => h
  | a :: l, ks, h => insL_nodup l _ (insK_nodup h)
theorem keys_len {ks cs : List Int} (h1 : ks.Nodup) (h2 : cs.Pairwise (· < ·)) (h : ∀ x, x ∈ ks ↔ x ∈ cs) : ks.length = cs.length := by
  have h3 : cs.Nodup := h2.imp fun h => by omega
  exact ((List.perm_ext_iff_of_nodup h1 h3).2 h).length_eq
end Go.Proofs.Ytmhgihjmhmihpaa.Sh
