/- Bytes as texts, held against each other; the first so many. -/
import Derived.Test.YtghelamfaaakcaaGreatSzPb
set_option linter.unusedVariables false
set_option linter.unusedSimpArgs false
set_option maxRecDepth 100000
namespace Go.Proofs.YtghelamfaaakcaaGreat.Sh
open Go Go.RowKit Go.Proofs.Ev
theorem bytesOf_u8 (l : List Nat) : bytesOf (l.map u8v) = some (l.map UInt8.ofNat) := by
  induction l with
  | nil => rfl
  | cons x l ih => simp only [List.map_cons, u8v] at ih ⊢; unfold bytesOf; rw [ih]; simp
def strB (l : List Nat) : ByteArray := ⟨(l.map UInt8.ofNat).toArray⟩
theorem convB {h : AH} {v : Value} {l : List Nat} (S : Bytes h v l) : pConv Tryz.prog 33 9 v h = some (.string (strB l)) := by
  rcases S with ⟨rfl, q⟩ | ⟨b, off, cap, own, rfl, h2, L⟩
  · have : l = [] := by simpa using q
    subst this
    unfold pConv
    have : plain (.slice none 0 0) = true := rfl
    simp only [this, if_true, u9, el33, Option.bind_some, u5]
    rfl
  · unfold pConv
    have : plain (.slice (some ⟨b, off, none⟩) (l.map fun x => [u8v x]).length cap) = false := rfl
    simp only [this, Bool.false_eq_true, if_false, u9, el33, u5, List.length_map]
    by_cases hl : l = []
    · subst hl
      have p0 : plain (.slice (some ⟨b, off, none⟩) ([] : List Nat).length cap) = false := rfl
      simp only [p0, Bool.false_eq_true, if_false, List.length_nil, if_true]
      rfl
    · have hne : l.length ≠ 0 := by simpa using hl
      rw [if_neg hne]
      have := L.flat (by simpa using hl)
      rw [List.length_map, Nat.mul_one, flat_u8] at this
      rw [this]
      simp only [bytesOf_u8, Option.map_some]
      rfl
end Go.Proofs.YtghelamfaaakcaaGreat.Sh
