/- Bytes that are handed in. -/
import Derived.Test.YtodokclcffejfaaSzP11
set_option linter.unusedVariables false
set_option linter.unusedSimpArgs false
namespace Go.Proofs.Ytodokclcffejfaa.Sh
open Go Go.RowKit Go.Proofs.Ev Go.ChangeShapes Go.WideShapes
theorem open_bytesN {H : Type} {enc : TypeId × Value → H} {W : World} {base b0 : Nat} {sp : Nat → Bool} {held : Bool} {r : Reach} {v : Value} {d : DataW H} {ps : List MemPlace}
    (hv : Value.okWide Try.prog W r b0 25 v) (hd : DataW.Trod enc Try.prog W base sp held 25 v d ps) : ∃ l : List Nat, Bytes (extHeap W) (tame W.heap.size 8 v) (ints l) ∧ ∀ x ∈ l, x < 256 := by
  obtain ⟨rows, h1, _, h2⟩ := open_rows u25 co5 (by omega) hv hd
  obtain ⟨l, rfl, hl⟩ := rows_of (P := fun q => ∃ fuel y, DataW.trod enc Try.prog W base sp held fuel 5 q = some y) (f := fun x : Nat => brow (x : Int)) (ok := fun x : Nat => x < 256) (fun q ⟨fuel, y, hy⟩ => by
    obtain ⟨n, hn, _, w⟩ := DataW.trod_int u5 hy
    have hr : 0 ≤ n ∧ n < 256 := by simp [Lit.wf, IntKind.min, IntKind.max, IntKind.signed, IntKind.bits] at w; omega
    obtain ⟨m, rfl⟩ := Int.eq_ofNat_of_zero_le hr.1
    exact ⟨m, hn, by omega⟩) h2
  refine ⟨l, ?_, hl⟩
  unfold Bytes ints
  rw [List.map_map] at h1 ⊢
  rw [show (fun q => List.map (tame W.heap.size 8) q) ∘ (fun x : Nat => brow (x : Int)) = brow ∘ fun (x : Nat) => (x : Int) from funext fun c => by simp [brow, tame]] at h1
  exact h1
end Go.Proofs.Ytodokclcffejfaa.Sh
