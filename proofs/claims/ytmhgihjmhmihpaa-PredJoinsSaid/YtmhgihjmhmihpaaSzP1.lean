/- What is joined of predicates holds as their parts do; 'ahead'. -/
import Derived.Test.YtmhgihjmhmihpaaSzVe
set_option linter.unusedVariables false
set_option linter.unusedSimpArgs false
set_option maxRecDepth 100000
namespace Go.Proofs.Ytmhgihjmhmihpaa.Sh
open Go Go.RowKit Go.Proofs.Ev

/-! ### The law -/
section
variable {α : Type} {d : α} {t : NodeD → List α → α}
theorem goneL_len (l : List NodeD) : ∀ out : List α, (goneL d t l out).length = out.length + l.length := by
  induction l with
  | nil => intro out; rfl
  | cons a l ih => intro out; rw [goneL, ih]; simp; omega
theorem goneL_app (l m : List NodeD) : ∀ out : List α, goneL d t (l ++ m) out = goneL d t m (goneL d t l out) := by
  induction l with
  | nil => intro out; rfl
  | cons a l ih => intro out; exact ih _
theorem goneL_pre (l : List NodeD) : ∀ out : List α, ∃ w, goneL d t l out = out ++ w := by
  induction l with
  | nil => intro out; exact ⟨[], by simp [goneL]⟩
  | cons a l ih =>
    intro out
    obtain ⟨w, hw⟩ := ih (out ++ [t a (a.parts.map (lookB d out))])
    exact ⟨_, by rw [goneL, hw, List.append_assoc]⟩
theorem lookB_app {pre out : List α} {n : Int} (h : 0 ≤ n) : lookB d (pre ++ out) (n + (pre.length : Int)) = lookB d out n := by
  unfold lookB
  rw [if_pos (by omega), if_pos h, show (n + (pre.length : Int)).toNat = pre.length + n.toNat by omega, List.getElem?_append_right (by omega), Nat.add_sub_cancel_left]
theorem lookB_left {out w : List α} {n : Int} (h : n < out.length) : lookB d (out ++ w) n = lookB d out n := by
  unfold lookB
  split
  · rw [List.getElem?_append_left (by omega)]
  · rfl
def nonneg (l : List NodeD) : Prop := ∀ nd ∈ l, ∀ n ∈ nd.parts, 0 ≤ n
theorem goneL_shift (ht : ∀ by_ nd ps, t (shiftN by_ nd) ps = t nd ps) {pre : List α} (l : List NodeD) : ∀ out : List α, nonneg l → goneL d t (l.map (shiftN pre.length)) (pre ++ out) = pre ++ goneL d t l out := by
  induction l with
  | nil => intro out _; rfl
  | cons a l ih =>
    intro out hn
    have e : ((shiftN pre.length a).parts.map (lookB d (pre ++ out))) = a.parts.map (lookB d out) := by
      show (a.parts.map (· + (pre.length : Int))).map (lookB d (pre ++ out)) = _
      rw [List.map_map]
      refine List.map_congr_left fun n hnm => ?_
      exact lookB_app (hn a (List.mem_cons_self ..) n hnm)
    rw [List.map_cons, goneL, e, ht, List.append_assoc, ih _ fun nd hnd => hn nd (List.mem_cons_of_mem _ hnd)]
    rfl
/-- What is told last. -/
def lastT (d : α) (t : NodeD → List α → α) (z : α) (l : List NodeD) : α := if l = [] then z else (goneL d t l []).getLast?.getD d
theorem step_ok (ht : ∀ by_ nd ps, t (shiftN by_ nd) ps = t nd ps) {z : α} (hz : t (opN 1) [] = z) (s : List NodeD × List Int) (l : List NodeD) (hn : nonneg l) :
    ∃ w, goneL d t (joinStep s l).1 [] = goneL d t s.1 [] ++ w ∧ s.1.length < (joinStep s l).1.length ∧ lookB d (goneL d t (joinStep s l).1 []) (((joinStep s l).1.length : Int) - 1) = lastT d t z l := by
  have hl := goneL_len (d := d) (t := t) s.1 []
  rw [List.length_nil, Nat.zero_add] at hl
  by_cases q : l = []
  · subst q
    have e : (joinStep s []).1 = s.1 ++ [opN 1] := by simp [joinStep]
    have eg : goneL d t (s.1 ++ [opN 1]) [] = goneL d t s.1 [] ++ [z] := by
      rw [goneL_app]
      show _ ++ [t (opN 1) []] = _
      rw [hz]
    refine ⟨[z], by rw [e, eg], by rw [e]; simp, ?_⟩
    rw [e, eg]
    unfold lookB lastT
    rw [if_pos rfl, if_pos (by simp), List.getElem?_append_right (by rw [hl]; simp), hl]
    simp
  · have e : (joinStep s l).1 = s.1 ++ l.map (shiftN s.1.length) := by simp [joinStep, q]
    have eg : goneL d t (joinStep s l).1 [] = goneL d t s.1 [] ++ goneL d t l [] := by
      rw [e, goneL_app]
      have := goneL_shift ht (d := d) (pre := goneL d t s.1 []) l [] hn
      rw [List.append_nil, hl] at this
      exact this
    have hpos := List.length_pos_iff.2 q
    have hl2 := goneL_len (d := d) (t := t) l []
    rw [List.length_nil, Nat.zero_add] at hl2
    refine ⟨_, eg, by rw [e]; simp; omega, ?_⟩
    rw [eg]
    unfold lookB lastT
    rw [if_neg q, e, List.length_append, List.length_map, if_pos (by omega), show ((((s.1.length + l.length : Nat) : Int) - 1).toNat) = s.1.length + (l.length - 1) by omega, List.getElem?_append_right (by omega), hl, Nat.add_sub_cancel_left,
      List.getLast?_eq_getElem?, hl2]
theorem fold_ok (ht : ∀ by_ nd ps, t (shiftN by_ nd) ps = t nd ps) {z : α} (hz : t (opN 1) [] = z) (ls : List (List NodeD)) : ∀ s : List NodeD × List Int, (∀ l ∈ ls, nonneg l) → (∀ n ∈ s.2, 0 ≤ n ∧ n < s.1.length) →
    ∃ w ks, goneL d t (ls.foldl joinStep s).1 [] = goneL d t s.1 [] ++ w ∧ (ls.foldl joinStep s).2 = s.2 ++ ks ∧ ks.map (lookB d (goneL d t (ls.foldl joinStep s).1 [])) = ls.map (lastT d t z) ∧ (∀ n ∈ (ls.foldl joinStep s).2, 0 ≤ n ∧ n < (ls.foldl joinStep s).1.length) ∧ s.1.length ≤ (ls.foldl joinStep s).1.length := by
  induction ls with
  | nil => intro s _ h2; exact ⟨[], [], by simp, by simp, rfl, h2, Nat.le_refl _⟩
  | cons l ls ih =>
    intro s h1 h2
    obtain ⟨w, e1, e2, e3⟩ := step_ok ht hz s l (h1 l (List.mem_cons_self ..)) (d := d)
    have es : (joinStep s l).2 = s.2 ++ [((joinStep s l).1.length : Int) - 1] := rfl
    obtain ⟨w2, ks, f1, f2, f3, f4, f5⟩ := ih (joinStep s l) (fun m hm => h1 m (List.mem_cons_of_mem _ hm)) (fun n hn => by
      rw [es] at hn
      rcases List.mem_append.1 hn with hn | hn
      · have := h2 n hn; omega
      · simp at hn; omega)
    rw [List.foldl_cons]
    refine ⟨w ++ w2, (((joinStep s l).1.length : Int) - 1) :: ks, by rw [f1, e1, List.append_assoc], by rw [f2, es]; simp, ?_, f4, by omega⟩
    rw [List.map_cons, List.map_cons, f3]
    congr 1
    rw [f1, lookB_left, e3]
    rw [goneL_len]
    simp
    omega
/-- What is joined tells as the operation does of what the parts tell. -/
theorem joinL_tell (ht : ∀ by_ nd ps, t (shiftN by_ nd) ps = t nd ps) (hp : ∀ nd ps l, t { nd with parts := l } ps = t nd ps) {z : α} (hz : t (opN 1) [] = z) (op : Int) (ls : List (List NodeD)) (hn : ∀ l ∈ ls, nonneg l) :
    lastT d t z (joinL op ls) = t (opN op) (ls.map (lastT d t z)) := by
  obtain ⟨w, ks, f1, f2, f3, f4, f5⟩ := fold_ok ht hz ls ([], []) hn (fun n hn => by cases hn) (d := d)
  unfold lastT joinL
  rw [if_neg (by simp), goneL_app]
  show ((_ ++ [t { opN op with parts := _ } (_)]).getLast?).getD d = _
  rw [List.getLast?_append]
  simp only [List.getLast?_singleton, Option.some_or, Option.getD_some, hp]
  rw [f2, List.nil_append, f3]
  rfl
end
theorem tellB_shift (row : List CellD) (by_ : Nat) (nd : NodeD) (ps : List Bool) : tellB row (shiftN by_ nd) ps = tellB row nd ps := rfl
theorem tellB_parts (row : List CellD) (nd : NodeD) (ps : List Bool) (l : List Int) : tellB row { nd with parts := l } ps = tellB row nd ps := rfl
theorem holds_join (row : List CellD) (op : Int) (ls : List (List NodeD)) (hn : ∀ l ∈ ls, nonneg l) : holdsB row (joinL op ls) = tellB row (opN op) (ls.map (holdsB row)) :=
  joinL_tell (tellB_shift row) (tellB_parts row) (z := true) rfl op ls hn
theorem joinL_nonneg (op : Int) (ls : List (List NodeD)) (hn : ∀ l ∈ ls, nonneg l) : nonneg (joinL op ls) := by
  have key : ∀ (ls : List (List NodeD)) (s : List NodeD × List Int), (∀ l ∈ ls, nonneg l) → nonneg s.1 → (∀ n ∈ s.2, 0 ≤ n) → nonneg (ls.foldl joinStep s).1 ∧ ∀ n ∈ (ls.foldl joinStep s).2, 0 ≤ n := by
    intro ls
    induction ls with
    | nil => intro s _ h2 h3; exact ⟨h2, h3⟩
    | cons l ls ih =>
      intro s h1 h2 h3
      refine ih _ (fun m hm => h1 m (List.mem_cons_of_mem _ hm)) ?_ ?_
      · intro nd hnd n hnn
        unfold joinStep at hnd
        rcases List.mem_append.1 hnd with hnd | hnd
        · split at hnd
          · rcases List.mem_append.1 hnd with hnd | hnd
            · exact h2 nd hnd n hnn
            · simp at hnd; subst hnd; cases hnn
          · exact h2 nd hnd n hnn
        · obtain ⟨m, hm, rfl⟩ := List.mem_map.1 hnd
          obtain ⟨x, hx, rfl⟩ := List.mem_map.1 hnn
          have := h1 l (List.mem_cons_self ..) m hm x hx
          omega
      · intro n hnn
        have es : (joinStep s l).2 = s.2 ++ [((joinStep s l).1.length : Int) - 1] := rfl
        have hlen : 0 < (joinStep s l).1.length := by
          unfold joinStep
          by_cases q : l = []
          · simp [q]
          · have := List.length_pos_iff.2 q
            simp [q]; omega
        rw [es] at hnn
        rcases List.mem_append.1 hnn with hnn | hnn
        · exact h3 n hnn
        · simp at hnn; omega
  obtain ⟨k1, k2⟩ := key ls ([], []) hn (fun nd hnd => by cases hnd) (fun n hn => by cases hn)
  intro nd hnd n hnn
  rcases List.mem_append.1 hnd with hnd | hnd
  · exact k1 nd hnd n hnn
  · simp at hnd; subst hnd; exact k2 n hnn
/-- Nodes that are not too great. -/
def upto (B : Int) (l : List NodeD) : Prop := ∀ nd ∈ l, nd.parts.length ≤ 900 ∧ ∀ x ∈ nd.parts, 0 ≤ x ∧ x ≤ B
theorem upto.nonneg {B : Int} {l : List NodeD} (h : upto B l) : nonneg l := fun nd hnd n hn => ((h nd hnd).2 n hn).1
theorem upto.light {B : Int} {l : List NodeD} (h : upto B l) (hB : B ≤ 2 ^ 50) : ∀ nd ∈ l, lightNode nd := fun nd hnd => ⟨(h nd hnd).1, fun x hx => by have := (h nd hnd).2 x hx; omega⟩
theorem joinL_upto (op : Int) {B : Int} (hB : 0 ≤ B) (ls : List (List NodeD)) (hn : ∀ l ∈ ls, upto B l) (hls : ls.length ≤ 900) : upto (B + (joinL op ls).length) (joinL op ls) := by
  have key : ∀ (ls : List (List NodeD)) (s : List NodeD × List Int), (∀ l ∈ ls, upto B l) → (∀ nd ∈ s.1, nd.parts.length ≤ 900 ∧ ∀ x ∈ nd.parts, 0 ≤ x ∧ x ≤ B + s.1.length) → (∀ n ∈ s.2, 0 ≤ n ∧ n ≤ s.1.length) →
      (∀ nd ∈ (ls.foldl joinStep s).1, nd.parts.length ≤ 900 ∧ ∀ x ∈ nd.parts, 0 ≤ x ∧ x ≤ B + (ls.foldl joinStep s).1.length) ∧ (∀ n ∈ (ls.foldl joinStep s).2, 0 ≤ n ∧ n ≤ (ls.foldl joinStep s).1.length) ∧ (ls.foldl joinStep s).2.length = s.2.length + ls.length := by
    intro ls
    induction ls with
    | nil => intro s _ h2 h3; exact ⟨h2, h3, rfl⟩
    | cons l ls ih =>
      intro s h1 h2 h3
      have es : (joinStep s l).2 = s.2 ++ [((joinStep s l).1.length : Int) - 1] := rfl
      have hlen : s.1.length < (joinStep s l).1.length := by
        unfold joinStep
        by_cases q : l = []
        · simp [q]
        · have := List.length_pos_iff.2 q
          simp [q]; omega
      obtain ⟨k1, k2, k3⟩ := ih (joinStep s l) (fun m hm => h1 m (List.mem_cons_of_mem _ hm)) (by
        intro nd hnd
        have hnd0 := hnd
        unfold joinStep at hnd
        rcases List.mem_append.1 hnd with hnd | hnd
        · split at hnd
          · rcases List.mem_append.1 hnd with hnd | hnd
            · obtain ⟨a, b⟩ := h2 nd hnd
              exact ⟨a, fun x hx => by have := b x hx; omega⟩
            · simp at hnd; subst hnd; exact ⟨by simp [opN], fun x hx => by cases hx⟩
          · obtain ⟨a, b⟩ := h2 nd hnd
            exact ⟨a, fun x hx => by have := b x hx; omega⟩
        · obtain ⟨m, hm, rfl⟩ := List.mem_map.1 hnd
          obtain ⟨a, b⟩ := h1 l (List.mem_cons_self ..) m hm
          refine ⟨by simpa [shiftN] using a, fun x hx => ?_⟩
          obtain ⟨y, hy, rfl⟩ := List.mem_map.1 hx
          have := b y hy
          omega) (by
        intro n hnn
        rw [es] at hnn
        rcases List.mem_append.1 hnn with hnn | hnn
        · have := h3 n hnn; omega
        · simp at hnn; omega)
      refine ⟨k1, k2, ?_⟩
      rw [List.foldl_cons, k3, es]
      simp
      omega
  obtain ⟨k1, k2, k3⟩ := key ls ([], []) hn (fun nd hnd => by cases hnd) (fun n hn => by cases hn)
  have hl : (joinL op ls).length = (ls.foldl joinStep ([], [])).1.length + 1 := by simp [joinL]
  intro nd hnd
  rcases List.mem_append.1 hnd with hnd | hnd
  · obtain ⟨a, b⟩ := k1 nd hnd
    exact ⟨a, fun x hx => by have := b x hx; omega⟩
  · simp at hnd
    subst hnd
    refine ⟨by simp at k3; simp; omega, fun x hx => ?_⟩
    have := k2 x hx
    omega
theorem joinL_len1 (op : Int) (a : List NodeD) : (joinL op [a]).length ≤ a.length + 2 := by
  by_cases q : a = [] <;> simp [joinL, joinStep, q]
theorem joinL_len2 (op : Int) (a b : List NodeD) : (joinL op [a, b]).length ≤ a.length + b.length + 3 := by
  by_cases q : a = [] <;> by_cases q2 : b = [] <;> simp [joinL, joinStep, q, q2]
  all_goals omega
end Go.Proofs.Ytmhgihjmhmihpaa.Sh
