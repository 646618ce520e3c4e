/- Light batches. -/
import Derived.Test.YtjmfokglckaneaaSzB1
import Derived.Test.YtjmfokglckaneaaSzWr
set_option linter.unusedVariables false
set_option linter.unusedSimpArgs false
set_option maxRecDepth 100000
namespace Go.Proofs.Ytjmfokglckaneaa.Sh
open Go Go.RowKit Go.Proofs.Ev
/-- A light change. -/
structure LightC (c : ChangeD) : Prop where
  rows : c.rows.length ≤ 40
  row : ∀ r ∈ c.rows, r.length ≤ 20
  pred : c.pred.length ≤ 20
  parts : ∀ nd ∈ c.pred, nd.parts.length ≤ 20
  cols : c.cols.length ≤ 20
  to : c.to.length ≤ 20
theorem rows_light {l : List (List CellD)} {m : Int} (h : lightRs l m = true) : (l.length : Int) ≤ m ∧ ∀ r ∈ l, r.length ≤ 20 := by
  unfold lightRs at h
  rw [Bool.and_eq_true, List.all_eq_true] at h
  refine ⟨of_decide_eq_true h.2, fun r hr => ?_⟩
  have := h.1 r hr
  unfold lightR at this
  rw [Bool.and_eq_true] at this
  exact of_decide_eq_true this.2
theorem light_ch {c : ChangeD} (h : lightCh 40 c = true) : LightC c := by
  unfold lightCh at h
  rw [Bool.and_eq_true, Bool.and_eq_true, Bool.and_eq_true] at h
  obtain ⟨h1, h2, h3, h4⟩ := h
  obtain ⟨r1, r2⟩ := rows_light h1
  unfold lightP at h2
  rw [Bool.and_eq_true, List.all_eq_true] at h2
  unfold lightR at h4
  rw [Bool.and_eq_true] at h4
  refine ⟨by omega, r2, of_decide_eq_true h2.2, fun nd hnd => ?_, of_decide_eq_true h3, of_decide_eq_true h4.2⟩
  have := h2.1 nd hnd
  unfold lightN at this
  rw [Bool.and_eq_true] at this
  exact of_decide_eq_true this.1
theorem light_all {cols : List ColD} {rows : List (List CellD)} {l : List ChangeD} (h : lightL cols rows l = true) : (rows.length ≤ 60 ∧ ∀ r ∈ rows, r.length ≤ 20) ∧ l.length ≤ 18 ∧ ∀ c ∈ l, LightC c := by
  unfold lightL lightB at h
  rw [Bool.and_eq_true, Bool.and_eq_true, Bool.and_eq_true, List.all_eq_true] at h
  obtain ⟨_, h2, h3, h4⟩ := h
  obtain ⟨r1, r2⟩ := rows_light h2
  exact ⟨⟨by omega, r2⟩, of_decide_eq_true h4, fun c hc => light_ch (h3 c hc)⟩
theorem LightC.ok {c : ChangeD} (L : LightC c) : ChOk c := ⟨by have := L.rows; omega, fun r hr => by have := L.row r hr; omega, by have := L.pred; omega, fun nd hnd => by have := L.parts nd hnd; omega, by have := L.cols; omega, by have := L.to; omega⟩
/-- The numbers of a change's cells are words. -/
structure ChCell (c : ChangeD) : Prop where
  row : ∀ r ∈ c.rows, ∀ x ∈ r, cellR x
  pred : ∀ nd ∈ c.pred, cellR nd.val
  to : ∀ x ∈ c.to, cellR x
theorem LightC.chc {c : ChangeD} (L : LightC c) (W : ChCell c) : ChC c :=
  ⟨by have := L.rows; omega, fun r hr => ⟨by have := L.row r hr; omega, W.row r hr⟩, by have := L.pred; omega, fun nd hnd => ⟨by have := L.parts nd hnd; omega, W.pred nd hnd⟩, by have := L.cols; omega, by have := L.to; omega, W.to⟩
end Go.Proofs.Ytjmfokglckaneaa.Sh
