/- Numbers of 64 bits that are handed in. -/
import Derived.Test.YtodokclcffejfaaSzP4
set_option linter.unusedVariables false
set_option linter.unusedSimpArgs false
namespace Go.Proofs.Ytodokclcffejfaa.Sh
open Go Go.RowKit Go.Proofs.Ev Go.ChangeShapes Go.WideShapes
theorem co30 : Try.prog.cellsOf 30 = 1 := by kernel_rfl
theorem co5 : Try.prog.cellsOf 5 = 1 := by kernel_rfl
theorem rows_of {α : Type} {P : List Value → Prop} {f : α → List Value} {ok : α → Prop} (hP : ∀ q, P q → ∃ z, q = f z ∧ ok z) : ∀ {rows : List (List Value)}, (∀ (i : Nat) (q : List Value), rows[i]? = some q → P q) → ∃ l : List α, rows = l.map f ∧ ∀ z ∈ l, ok z := by
  intro rows
  induction rows with
  | nil => intro _; exact ⟨[], rfl, fun z hz => by cases hz⟩
  | cons q rows ih =>
    intro h
    obtain ⟨z, rfl, hz⟩ := hP q (h 0 q rfl)
    obtain ⟨l, rfl, hl⟩ := ih fun i q hq => h (i + 1) q (by simpa using hq)
    refine ⟨z :: l, rfl, fun y hy => ?_⟩
    rcases List.mem_cons.1 hy with rfl | hy
    · exact hz
    · exact hl y hy
theorem open_words {H : Type} {enc : TypeId × Value → H} {W : World} {base b0 : Nat} {sp : Nat → Bool} {held : Bool} {r : Reach} {v : Value} {d : DataW H} {ps : List MemPlace}
    (hv : Value.okWide Try.prog W r b0 22 v) (hd : DataW.Trod enc Try.prog W base sp held 22 v d ps) : ∃ l : List Nat, Words (extHeap W) (tame W.heap.size 8 v) (ints l) ∧ ∀ x ∈ l, x < 18446744073709551616 := by
  obtain ⟨rows, h1, _, h2⟩ := open_rows u22 co30 (by omega) hv hd
  obtain ⟨l, rfl, hl⟩ := rows_of (P := fun q => ∃ fuel y, DataW.trod enc Try.prog W base sp held fuel 30 q = some y) (f := fun x : Nat => wrow (x : Int)) (ok := fun x : Nat => x < 18446744073709551616) (fun q ⟨fuel, y, hy⟩ => by
    obtain ⟨n, hn, _, w⟩ := DataW.trod_int u30 hy
    have hr : 0 ≤ n ∧ n < 18446744073709551616 := by simp [Lit.wf, IntKind.min, IntKind.max, IntKind.signed, IntKind.bits] at w; omega
    obtain ⟨m, rfl⟩ := Int.eq_ofNat_of_zero_le hr.1
    exact ⟨m, hn, by omega⟩) h2
  refine ⟨l, ?_, hl⟩
  unfold Words ints
  rw [List.map_map] at h1 ⊢
  rw [show (fun q => List.map (tame W.heap.size 8) q) ∘ (fun x : Nat => wrow (x : Int)) = wrow ∘ fun (x : Nat) => (x : Int) from funext fun c => by simp [wrow, tame]] at h1
  exact h1
end Go.Proofs.Ytodokclcffejfaa.Sh
