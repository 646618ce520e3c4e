/- Numbers, bytes that are handed in, as numbers. -/
import Derived.Test.YtchfdnboojamnaaSzO9
set_option linter.unusedVariables false
set_option linter.unusedSimpArgs false
namespace Go.Proofs.Ytchfdnboojamnaa.Sh
open Go Go.RowKit Go.Proofs.Ev Go.ChangeShapes Go.WideShapes
theorem co23 : Try.prog.cellsOf 23 = 1 := by kernel_rfl
theorem nats_of {lim : Int} : ∀ {l : List Int}, (∀ z ∈ l, 0 ≤ z ∧ z < lim) → ∃ m : List Nat, l = ints m ∧ ∀ x ∈ m, (x : Int) < lim := by
  intro l
  induction l with
  | nil => intro _; exact ⟨[], rfl, fun x hx => by cases hx⟩
  | cons z l ih =>
    intro h
    obtain ⟨n, rfl⟩ := Int.eq_ofNat_of_zero_le (h z (by simp)).1
    obtain ⟨m, rfl, hm⟩ := ih fun y hy => h y (by simp [hy])
    refine ⟨n :: m, rfl, fun x hx => ?_⟩
    rcases List.mem_cons.1 hx with rfl | hx
    · exact (h _ (by simp)).2
    · exact hm x hx
theorem open_bytesN {H : Type} {enc : TypeId × Value → H} {W : World} {base b0 : Nat} {sp : Nat → Bool} {held : Bool} {r : Reach} {v : Value} {d : DataW H} {ps : List MemPlace}
    (hv : Value.okWide Try.prog W r b0 25 v) (hd : DataW.Trod enc Try.prog W base sp held 25 v d ps) : ∃ l : List Nat, Bytes (extHeap W) (tame W.heap.size 8 v) (ints l) ∧ ∀ x ∈ l, x < 256 := by
  obtain ⟨l, B, hl⟩ := open_bytes' hv hd
  obtain ⟨m, rfl, hm⟩ := nats_of (lim := 256) (l := l) fun z hz => by
    have := hl z hz
    simp [Lit.wf, IntKind.min, IntKind.max, IntKind.signed, IntKind.bits] at this
    omega
  exact ⟨m, B, fun x hx => by have := hm x hx; omega⟩
theorem open_wordsN {H : Type} {enc : TypeId × Value → H} {W : World} {base b0 : Nat} {sp : Nat → Bool} {held : Bool} {r : Reach} {v : Value} {d : DataW H} {ps : List MemPlace}
    (hv : Value.okWide Try.prog W r b0 30 v) (hd : DataW.Trod enc Try.prog W base sp held 30 v d ps) : ∃ l : List Nat, Words (extHeap W) (tame W.heap.size 8 v) (ints l) ∧ ∀ x ∈ l, x < 18446744073709551616 := by
  obtain ⟨rows, h1, _, h2⟩ := open_rows u30 co23 (by omega) hv hd
  obtain ⟨l, rfl, hl⟩ := rows_of (P := fun q => ∃ fuel y, DataW.trod enc Try.prog W base sp held fuel 23 q = some y) (f := wrow) (ok := fun z => (Lit.int .u64 z).wf = true) (fun q ⟨fuel, y, hy⟩ => by
    obtain ⟨n, hn, _, w⟩ := DataW.trod_int u23 hy
    exact ⟨n, hn, w⟩) h2
  have h3 : Words (extHeap W) (tame W.heap.size 8 v) l := by
    unfold Words
    rw [List.map_map] at h1
    rw [show (fun q => List.map (tame W.heap.size 8) q) ∘ wrow = wrow from funext fun c => by simp [wrow, tame]] at h1
    exact h1
  obtain ⟨m, rfl, hm⟩ := nats_of (lim := 18446744073709551616) (l := l) fun z hz => by
    have := hl z hz
    simp [Lit.wf, IntKind.min, IntKind.max, IntKind.signed, IntKind.bits] at this
    omega
  exact ⟨m, h3, fun x hx => by have := hm x hx; omega⟩
end Go.Proofs.Ytchfdnboojamnaa.Sh
