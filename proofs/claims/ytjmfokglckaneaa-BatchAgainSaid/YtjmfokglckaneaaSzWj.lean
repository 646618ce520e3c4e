/- Predicates joined: the plain law; which predicates may be. -/
import Derived.Test.YtjmfokglckaneaaSzVk
import Derived.Test.YtjmfokglckaneaaSzVd
set_option linter.unusedVariables false
set_option linter.unusedSimpArgs false
set_option maxRecDepth 100000
namespace Go.Proofs.Ytjmfokglckaneaa.Sh
open Go Go.RowKit Go.Proofs.Ev
def shiftN (by_ : Nat) (nd : NodeD) : NodeD := { nd with parts := nd.parts.map (· + (by_ : Int)) }
/-- A row whose parts lie in blocks that are known. -/
def NodeF (Fz : List (Nat × AO)) (r : List Value) (nd : NodeD) : Prop := ∃ pv, r = nrow nd pv ∧ ∀ h', Mem h' Fz → IntsZ h' pv nd.parts
theorem NodeF.more {F Fz : List (Nat × AO)} {r : List Value} {nd : NodeD} (h : NodeF Fz r nd) : NodeF (F ++ Fz) r nd := by
  obtain ⟨pv, e, hp⟩ := h
  exact ⟨pv, e, fun h' hm => hp h' (Mem.app.1 hm).2⟩
theorem appP : AppT Try.prog #[35, 35] 59 6 72 := ⟨by kernel_rfl, ⟨59, by kernel_rfl⟩, by kernel_rfl, by omega, by kernel_rfl, ⟨_, ze59, rfl, rfl⟩⟩
theorem bsP (nd : NodeD) (a : Option Addr) (m c : Nat) (h : AH) : pBuildSlice Try.prog 35 1 #[(0, .agg (nrow nd (.slice a m c)).toArray)] h = some (.slice (some ⟨h.n, 0, none⟩) 1 1, h.alloc (.cells (nrow nd (.slice a m c)) 59 true)) := by kernel_rfl
def cell0 : CellD := ⟨0, 0, .empty⟩
def opN (op : Int) : NodeD := ⟨op, 0, cell0, []⟩
def joinStep (s : List NodeD × List Int) (l : List NodeD) : List NodeD × List Int :=
  ((if l = [] then s.1 ++ [opN 1] else s.1) ++ l.map (shiftN s.1.length), s.2 ++ [(((if l = [] then s.1 ++ [opN 1] else s.1) ++ l.map (shiftN s.1.length)).length : Int) - 1])
/-- Predicates as parts of one. -/
def joinL (op : Int) (ls : List (List NodeD)) : List NodeD := (ls.foldl joinStep ([], [])).1 ++ [{ opN op with parts := (ls.foldl joinStep ([], [])).2 }]
theorem bd59 (op : Int) : pBuild Try.prog 59 #[(0, .int .i64 op)] = some (.agg (nrow (opN op) (.slice none 0 0)).toArray) := by kernel_rfl
theorem irows_snoc (l : List Int) (x : Int) : irows l ++ [[.int .i64 x]] = irows (l ++ [x]) := by simp [irows]
def lightNode (nd : NodeD) : Prop := nd.parts.length ≤ 900 ∧ ∀ x ∈ nd.parts, -2 ^ 50 ≤ x ∧ x ≤ 2 ^ 50
/-! ### The law -/
section
variable {α : Type} {d : α} {t : NodeD → List α → α}
theorem goneL_len (l : List NodeD) : ∀ out : List α, (goneL d t l out).length = out.length + l.length := by
  induction l with
  | nil => intro out; rfl
  | cons a l ih => intro out; rw [goneL, ih]; simp; omega
theorem goneL_app (l m : List NodeD) : ∀ out : List α, goneL d t (l ++ m) out = goneL d t m (goneL d t l out) := by
  induction l with
  | nil => intro out; rfl
  | cons a l ih => intro out; exact ih _
theorem lookB_app {pre out : List α} {n : Int} (h : 0 ≤ n) : lookB d (pre ++ out) (n + (pre.length : Int)) = lookB d out n := by
  unfold lookB
  rw [if_pos (by omega), if_pos h, show (n + (pre.length : Int)).toNat = pre.length + n.toNat by omega, List.getElem?_append_right (by omega), Nat.add_sub_cancel_left]
theorem lookB_left {out w : List α} {n : Int} (h : n < out.length) : lookB d (out ++ w) n = lookB d out n := by
  unfold lookB
  split
  · rw [List.getElem?_append_left (by omega)]
  · rfl
def nonneg (l : List NodeD) : Prop := ∀ nd ∈ l, ∀ n ∈ nd.parts, 0 ≤ n
theorem goneL_shift (ht : ∀ by_ nd ps, t (shiftN by_ nd) ps = t nd ps) {pre : List α} (l : List NodeD) : ∀ out : List α, nonneg l → goneL d t (l.map (shiftN pre.length)) (pre ++ out) = pre ++ goneL d t l out := by
  induction l with
  | nil => intro out _; rfl
  | cons a l ih =>
    intro out hn
    have e : ((shiftN pre.length a).parts.map (lookB d (pre ++ out))) = a.parts.map (lookB d out) := by
      show (a.parts.map (· + (pre.length : Int))).map (lookB d (pre ++ out)) = _
      rw [List.map_map]
      refine List.map_congr_left fun n hnm => ?_
      exact lookB_app (hn a (List.mem_cons_self ..) n hnm)
    rw [List.map_cons, goneL, e, ht, List.append_assoc, ih _ fun nd hnd => hn nd (List.mem_cons_of_mem _ hnd)]
    rfl
/-- What is told last. -/
def lastT (d : α) (t : NodeD → List α → α) (z : α) (l : List NodeD) : α := if l = [] then z else (goneL d t l []).getLast?.getD d
theorem step_ok (ht : ∀ by_ nd ps, t (shiftN by_ nd) ps = t nd ps) {z : α} (hz : t (opN 1) [] = z) (s : List NodeD × List Int) (l : List NodeD) (hn : nonneg l) :
    ∃ w, goneL d t (joinStep s l).1 [] = goneL d t s.1 [] ++ w ∧ s.1.length < (joinStep s l).1.length ∧ lookB d (goneL d t (joinStep s l).1 []) (((joinStep s l).1.length : Int) - 1) = lastT d t z l := by
  have hl := goneL_len (d := d) (t := t) s.1 []
  rw [List.length_nil, Nat.zero_add] at hl
  by_cases q : l = []
  · subst q
    have e : (joinStep s []).1 = s.1 ++ [opN 1] := by simp [joinStep]
    have eg : goneL d t (s.1 ++ [opN 1]) [] = goneL d t s.1 [] ++ [z] := by
      rw [goneL_app]
      show _ ++ [t (opN 1) []] = _
      rw [hz]
    refine ⟨[z], by rw [e, eg], by rw [e]; simp, ?_⟩
    rw [e, eg]
    unfold lookB lastT
    rw [if_pos rfl, if_pos (by simp), List.getElem?_append_right (by rw [hl]; simp), hl]
    simp
  · have e : (joinStep s l).1 = s.1 ++ l.map (shiftN s.1.length) := by simp [joinStep, q]
    have eg : goneL d t (joinStep s l).1 [] = goneL d t s.1 [] ++ goneL d t l [] := by
      rw [e, goneL_app]
      have := goneL_shift ht (d := d) (pre := goneL d t s.1 []) l [] hn
      rw [List.append_nil, hl] at this
      exact this
    have hpos := List.length_pos_iff.2 q
    have hl2 := goneL_len (d := d) (t := t) l []
    rw [List.length_nil, Nat.zero_add] at hl2
    refine ⟨_, eg, by rw [e]; simp; omega, ?_⟩
    rw [eg]
    unfold lookB lastT
    rw [if_neg q, e, List.length_append, List.length_map, if_pos (by omega), show ((((s.1.length + l.length : Nat) : Int) - 1).toNat) = s.1.length + (l.length - 1) by omega, List.getElem?_append_right (by omega), hl, Nat.add_sub_cancel_left,
      List.getLast?_eq_getElem?, hl2]
theorem fold_ok (ht : ∀ by_ nd ps, t (shiftN by_ nd) ps = t nd ps) {z : α} (hz : t (opN 1) [] = z) (ls : List (List NodeD)) : ∀ s : List NodeD × List Int, (∀ l ∈ ls, nonneg l) → (∀ n ∈ s.2, 0 ≤ n ∧ n < s.1.length) →
    ∃ w ks, goneL d t (ls.foldl joinStep s).1 [] = goneL d t s.1 [] ++ w ∧ (ls.foldl joinStep s).2 = s.2 ++ ks ∧ ks.map (lookB d (goneL d t (ls.foldl joinStep s).1 [])) = ls.map (lastT d t z) ∧ (∀ n ∈ (ls.foldl joinStep s).2, 0 ≤ n ∧ n < (ls.foldl joinStep s).1.length) ∧ s.1.length ≤ (ls.foldl joinStep s).1.length := by
  induction ls with
  | nil => intro s _ h2; exact ⟨[], [], by simp, by simp, rfl, h2, Nat.le_refl _⟩
  | cons l ls ih =>
    intro s h1 h2
    obtain ⟨w, e1, e2, e3⟩ := step_ok ht hz s l (h1 l (List.mem_cons_self ..)) (d := d)
    have es : (joinStep s l).2 = s.2 ++ [((joinStep s l).1.length : Int) - 1] := rfl
    obtain ⟨w2, ks, f1, f2, f3, f4, f5⟩ := ih (joinStep s l) (fun m hm => h1 m (List.mem_cons_of_mem _ hm)) (fun n hn => by
      rw [es] at hn
      rcases List.mem_append.1 hn with hn | hn
      · have := h2 n hn; omega
      · simp at hn; omega)
    rw [List.foldl_cons]
    refine ⟨w ++ w2, (((joinStep s l).1.length : Int) - 1) :: ks, by rw [f1, e1, List.append_assoc], by rw [f2, es]; simp, ?_, f4, by omega⟩
    rw [List.map_cons, List.map_cons, f3]
    congr 1
    rw [f1, lookB_left, e3]
    rw [goneL_len]
    simp
    omega
/-- What is joined tells as the operation does of what the parts tell. -/
theorem joinL_tell (ht : ∀ by_ nd ps, t (shiftN by_ nd) ps = t nd ps) (hp : ∀ nd ps l, t { nd with parts := l } ps = t nd ps) {z : α} (hz : t (opN 1) [] = z) (op : Int) (ls : List (List NodeD)) (hn : ∀ l ∈ ls, nonneg l) :
    lastT d t z (joinL op ls) = t (opN op) (ls.map (lastT d t z)) := by
  obtain ⟨w, ks, f1, f2, f3, f4, f5⟩ := fold_ok ht hz ls ([], []) hn (fun n hn => by cases hn) (d := d)
  unfold lastT joinL
  rw [if_neg (by simp), goneL_app]
  show ((_ ++ [t { opN op with parts := _ } (_)]).getLast?).getD d = _
  rw [List.getLast?_append]
  simp only [List.getLast?_singleton, Option.some_or, Option.getD_some, hp]
  rw [f2, List.nil_append, f3]
  rfl
end
theorem tellB_shift (row : List CellD) (by_ : Nat) (nd : NodeD) (ps : List Bool) : tellB row (shiftN by_ nd) ps = tellB row nd ps := rfl
theorem tellB_parts (row : List CellD) (nd : NodeD) (ps : List Bool) (l : List Int) : tellB row { nd with parts := l } ps = tellB row nd ps := rfl
theorem holds_join (row : List CellD) (op : Int) (ls : List (List NodeD)) (hn : ∀ l ∈ ls, nonneg l) : holdsB row (joinL op ls) = tellB row (opN op) (ls.map (holdsB row)) :=
  joinL_tell (tellB_shift row) (tellB_parts row) (z := true) rfl op ls hn
/-- Nodes that are not too great. -/
def upto (B : Int) (l : List NodeD) : Prop := ∀ nd ∈ l, nd.parts.length ≤ 900 ∧ ∀ x ∈ nd.parts, 0 ≤ x ∧ x ≤ B
theorem upto.nonneg {B : Int} {l : List NodeD} (h : upto B l) : nonneg l := fun nd hnd n hn => ((h nd hnd).2 n hn).1
theorem upto.light {B : Int} {l : List NodeD} (h : upto B l) (hB : B ≤ 2 ^ 50) : ∀ nd ∈ l, lightNode nd := fun nd hnd => ⟨(h nd hnd).1, fun x hx => by have := (h nd hnd).2 x hx; omega⟩
theorem joinL_upto (op : Int) {B : Int} (hB : 0 ≤ B) (ls : List (List NodeD)) (hn : ∀ l ∈ ls, upto B l) (hls : ls.length ≤ 900) : upto (B + (joinL op ls).length) (joinL op ls) := by
  have key : ∀ (ls : List (List NodeD)) (s : List NodeD × List Int), (∀ l ∈ ls, upto B l) → (∀ nd ∈ s.1, nd.parts.length ≤ 900 ∧ ∀ x ∈ nd.parts, 0 ≤ x ∧ x ≤ B + s.1.length) → (∀ n ∈ s.2, 0 ≤ n ∧ n ≤ s.1.length) →
      (∀ nd ∈ (ls.foldl joinStep s).1, nd.parts.length ≤ 900 ∧ ∀ x ∈ nd.parts, 0 ≤ x ∧ x ≤ B + (ls.foldl joinStep s).1.length) ∧ (∀ n ∈ (ls.foldl joinStep s).2, 0 ≤ n ∧ n ≤ (ls.foldl joinStep s).1.length) ∧ (ls.foldl joinStep s).2.length = s.2.length + ls.length := by
    intro ls
    induction ls with
    | nil => intro s _ h2 h3; exact ⟨h2, h3, rfl⟩
    | cons l ls ih =>
      intro s h1 h2 h3
      have es : (joinStep s l).2 = s.2 ++ [((joinStep s l).1.length : Int) - 1] := rfl
      have hlen : s.1.length < (joinStep s l).1.length := by
        unfold joinStep
        by_cases q : l = []
        · simp [q]
        · have := List.length_pos_iff.2 q
          simp [q]; omega
      obtain ⟨k1, k2, k3⟩ := ih (joinStep s l) (fun m hm => h1 m (List.mem_cons_of_mem _ hm)) (by
        intro nd hnd
        have hnd0 := hnd
        unfold joinStep at hnd
        rcases List.mem_append.1 hnd with hnd | hnd
        · split at hnd
          · rcases List.mem_append.1 hnd with hnd | hnd
            · obtain ⟨a, b⟩ := h2 nd hnd
              exact ⟨a, fun x hx => by have := b x hx; omega⟩
            · simp at hnd; subst hnd; exact ⟨by simp [opN], fun x hx => by cases hx⟩
          · obtain ⟨a, b⟩ := h2 nd hnd
            exact ⟨a, fun x hx => by have := b x hx; omega⟩
        · obtain ⟨m, hm, rfl⟩ := List.mem_map.1 hnd
          obtain ⟨a, b⟩ := h1 l (List.mem_cons_self ..) m hm
          refine ⟨by simpa [shiftN] using a, fun x hx => ?_⟩
          obtain ⟨y, hy, rfl⟩ := List.mem_map.1 hx
          have := b y hy
          omega) (by
        intro n hnn
        rw [es] at hnn
        rcases List.mem_append.1 hnn with hnn | hnn
        · have := h3 n hnn; omega
        · simp at hnn; omega)
      refine ⟨k1, k2, ?_⟩
      rw [List.foldl_cons, k3, es]
      simp
      omega
  obtain ⟨k1, k2, k3⟩ := key ls ([], []) hn (fun nd hnd => by cases hnd) (fun n hn => by cases hn)
  have hl : (joinL op ls).length = (ls.foldl joinStep ([], [])).1.length + 1 := by simp [joinL]
  intro nd hnd
  rcases List.mem_append.1 hnd with hnd | hnd
  · obtain ⟨a, b⟩ := k1 nd hnd
    exact ⟨a, fun x hx => by have := b x hx; omega⟩
  · simp at hnd
    subst hnd
    refine ⟨by simp at k3; simp; omega, fun x hx => ?_⟩
    have := k2 x hx
    omega
theorem joinL_len1 (op : Int) (a : List NodeD) : (joinL op [a]).length ≤ a.length + 2 := by
  by_cases q : a = [] <;> simp [joinL, joinStep, q]
def cnt (l : List Int) (n : Int) : Int := (l.filter fun x => decide (x = n)).length
theorem cnt_nil (n : Int) : cnt [] n = 0 := rfl
theorem cnt_cons (a : Int) (l : List Int) (n : Int) : cnt (a :: l) n = (if a = n then 1 else 0) + cnt l n := by
  unfold cnt
  rw [List.filter_cons]
  by_cases q : a = n
  · simp [q]; omega
  · simp [q]
theorem cnt_app (l m : List Int) (n : Int) : cnt (l ++ m) n = cnt l n + cnt m n := by
  unfold cnt
  rw [List.filter_append, List.length_append]
  omega
theorem usePs_iff (i : Nat) : ∀ (ns u u' : List Int), usePs i ns u = some u' → (∀ n ∈ ns, 0 ≤ n ∧ n < i) ∧ u'.length = u.length ∧ ∀ t, t < u.length → u'[t]? = (u[t]?).map (· + cnt ns t)
  | [], u, u', h => by
    cases h
    exact ⟨fun n hn => (by cases hn), rfl, fun t ht => by simp [cnt_nil]⟩
  | n :: ns, u, u', h => by
    unfold usePs at h
    split at h
    · rename_i hn
      obtain ⟨h1, h2, h3⟩ := usePs_iff i ns _ u' h
      rw [List.length_set] at h2 h3
      refine ⟨fun x hx => ?_, h2, fun t ht => ?_⟩
      · rcases List.mem_cons.1 hx with rfl | hx
        · exact hn
        · exact h1 x hx
      · rw [h3 t ht, cnt_cons, List.getElem?_set]
        by_cases q : n.toNat = t
        · subst q
          rw [if_pos rfl, if_pos ht, if_pos (by omega)]
          obtain ⟨w, hw⟩ : ∃ w, u[n.toNat]? = some w := ⟨_, List.getElem?_eq_getElem ht⟩
          rw [hw]
          simp
          omega
        · rw [if_neg q, if_neg (by omega)]
          simp
    · cases h
theorem usePs_some (i : Nat) : ∀ (ns u : List Int), (∀ n ∈ ns, 0 ≤ n ∧ n < i) → ∃ u', usePs i ns u = some u'
  | [], u, _ => ⟨u, rfl⟩
  | n :: ns, u, h => by
    unfold usePs
    rw [if_pos (h n (List.mem_cons_self ..))]
    exact usePs_some i ns _ fun x hx => h x (List.mem_cons_of_mem _ hx)
def validF : Nat → List NodeD → Prop
  | _, [] => True
  | i, nd :: l => (∀ n ∈ nd.parts, 0 ≤ n ∧ n < i) ∧ validF (i + 1) l
def allParts (l : List NodeD) : List Int := l.flatMap (·.parts)
theorem checkF_iff (cols : List ColD) : ∀ (l : List NodeD) (i : Nat) (u u' : List Int), checkF cols i l u = some u' → (∀ nd ∈ l, nodeOk cols nd = true) ∧ validF i l ∧ u'.length = u.length ∧ ∀ t, t < u.length → u'[t]? = (u[t]?).map (· + cnt (allParts l) t)
  | [], i, u, u', h => by
    cases h
    exact ⟨fun n hn => (by cases hn), trivial, rfl, fun t ht => by simp [allParts, cnt_nil]⟩
  | nd :: l, i, u, u', h => by
    unfold checkF at h
    split at h
    · rename_i hn
      rw [Option.bind_eq_some_iff] at h
      obtain ⟨u1, h1, h2⟩ := h
      obtain ⟨a1, a2, a3⟩ := usePs_iff i nd.parts u u1 h1
      obtain ⟨b1, b2, b3, b4⟩ := checkF_iff cols l (i + 1) u1 u' h2
      refine ⟨fun x hx => ?_, ⟨a1, b2⟩, by omega, fun t ht => ?_⟩
      · rcases List.mem_cons.1 hx with rfl | hx
        · exact hn
        · exact b1 x hx
      · rw [b4 t (by omega), a3 t ht]
        show _ = (u[t]?).map (· + cnt (nd.parts ++ allParts l) t)
        rw [cnt_app, Option.map_map]
        congr 1
        funext z
        simp
        omega
    · cases h
theorem checkF_some (cols : List ColD) : ∀ (l : List NodeD) (i : Nat) (u : List Int), (∀ nd ∈ l, nodeOk cols nd = true) → validF i l → ∃ u', checkF cols i l u = some u'
  | [], i, u, _, _ => ⟨u, rfl⟩
  | nd :: l, i, u, h1, h2 => by
    unfold checkF
    rw [if_pos (h1 nd (List.mem_cons_self ..))]
    obtain ⟨u1, hu⟩ := usePs_some i nd.parts u h2.1
    rw [hu]
    exact checkF_some cols l (i + 1) u1 (fun x hx => h1 x (List.mem_cons_of_mem _ hx)) h2.2
/-- Nodes that may be, each but the last used once. -/
structure Fine (cols : List ColD) (l : List NodeD) : Prop where
  nodes : ∀ nd ∈ l, nodeOk cols nd = true
  valid : validF 0 l
  once : ∀ t : Nat, t + 1 < l.length → cnt (allParts l) t = 1
theorem predOk_iff {cols : List ColD} {l : List NodeD} : predOk cols l = true ↔ colsOk cols = true ∧ l.length ≤ 64 ∧ Fine cols l := by
  unfold predOk
  rw [Bool.and_eq_true, Bool.and_eq_true, decide_eq_true_iff]
  have key : (match checkF cols 0 l (List.replicate l.length 0) with | none => false | some u => !((u.take (l.length - 1)).any fun n => n != 1)) = true ↔ Fine cols l := by
    constructor
    · intro h
      cases hc : checkF cols 0 l (List.replicate l.length 0) with
      | none => rw [hc] at h; cases h
      | some u =>
        rw [hc] at h
        simp only [Bool.not_eq_true', List.any_eq_false] at h
        obtain ⟨a1, a2, a3, a4⟩ := checkF_iff cols l 0 _ u hc
        rw [List.length_replicate] at a3 a4
        refine ⟨a1, a2, fun t ht => ?_⟩
        have e := a4 t (by omega)
        rw [List.getElem?_replicate, if_pos (by omega)] at e
        simp only [Option.map_some, Int.zero_add] at e
        have hm : cnt (allParts l) t ∈ u.take (l.length - 1) := List.mem_iff_getElem?.2 ⟨t, by rw [List.getElem?_take_of_lt (by omega)]; exact e⟩
        have := h _ hm
        simpa using this
    · intro F
      obtain ⟨u, hu⟩ := checkF_some cols l 0 (List.replicate l.length 0) F.nodes F.valid
      obtain ⟨a1, a2, a3, a4⟩ := checkF_iff cols l 0 _ u hu
      rw [List.length_replicate] at a3 a4
      rw [hu]
      simp only [Bool.not_eq_true', List.any_eq_false]
      intro x hx
      obtain ⟨t, ht⟩ := List.mem_iff_getElem?.1 hx
      have hlt : t < l.length - 1 := by
        have := (List.getElem?_eq_some_iff.1 ht).1
        simp at this
        omega
      rw [List.getElem?_take_of_lt hlt, a4 t (by omega), List.getElem?_replicate, if_pos (by omega)] at ht
      simp only [Option.map_some, Int.zero_add, Option.some.injEq] at ht
      rw [← ht, F.once t (by omega)]
      simp
  exact ⟨fun ⟨h1, h2, h3⟩ => ⟨h1, h2, key.1 h3⟩, fun ⟨h1, h2, h3⟩ => ⟨h1, h2, key.2 h3⟩⟩
theorem validF_mem : ∀ (l : List NodeD) (i : Nat), validF i l → ∀ n ∈ allParts l, 0 ≤ n ∧ n + 1 < i + l.length
  | [], i, _, n, hn => by cases hn
  | nd :: l, i, h, n, hn => by
    have hn : n ∈ nd.parts ++ allParts l := hn
    rcases List.mem_append.1 hn with hn | hn
    · have := h.1 n hn
      simp only [List.length_cons]
      omega
    · have := validF_mem l (i + 1) h.2 n hn
      simp only [List.length_cons]
      omega
end Go.Proofs.Ytjmfokglckaneaa.Sh
