/- Predicates joined: the plain law; which predicates may be. -/
import Derived.Test.YtjmfokglckaneaaSzVk
import Derived.Test.YtjmfokglckaneaaSzVd
set_option linter.unusedVariables false
set_option linter.unusedSimpArgs false
set_option maxRecDepth 100000
namespace Go.Proofs.Ytjmfokglckaneaa.Sh
open Go Go.RowKit Go.Proofs.Ev
/-- A row whose parts lie in blocks that are known. -/
def NodeF (Fz : List (Nat × AO)) (r : List Value) (nd : NodeD) : Prop := ∃ pv, r = nrow nd pv ∧ ∀ h', Mem h' Fz → IntsZ h' pv nd.parts
theorem NodeF.more {F Fz : List (Nat × AO)} {r : List Value} {nd : NodeD} (h : NodeF Fz r nd) : NodeF (F ++ Fz) r nd := by
  obtain ⟨pv, e, hp⟩ := h
  exact ⟨pv, e, fun h' hm => hp h' (Mem.app.1 hm).2⟩
theorem irows_snoc (l : List Int) (x : Int) : irows l ++ [[.int .i64 x]] = irows (l ++ [x]) := by simp [irows]
def lightNode (nd : NodeD) : Prop := nd.parts.length ≤ 900 ∧ ∀ x ∈ nd.parts, -2 ^ 50 ≤ x ∧ x ≤ 2 ^ 50
/-! ### The law -/
section
variable {α : Type} {d : α} {t : NodeD → List α → α}
theorem goneL_len (l : List NodeD) : ∀ out : List α, (goneL d t l out).length = out.length + l.length := by
  induction l with
  | nil => intro out; rfl
  | cons a l ih => intro out; rw [goneL, ih]; simp; omega
end
/-- Nodes that are not too great. -/
def upto (B : Int) (l : List NodeD) : Prop := ∀ nd ∈ l, nd.parts.length ≤ 900 ∧ ∀ x ∈ nd.parts, 0 ≤ x ∧ x ≤ B
theorem upto.light {B : Int} {l : List NodeD} (h : upto B l) (hB : B ≤ 2 ^ 50) : ∀ nd ∈ l, lightNode nd := fun nd hnd => ⟨(h nd hnd).1, fun x hx => by have := (h nd hnd).2 x hx; omega⟩
def cnt (l : List Int) (n : Int) : Int := (l.filter fun x => decide (x = n)).length
def validF : Nat → List NodeD → Prop
  | _, [] => True
  | i, nd :: l => (∀ n ∈ nd.parts, 0 ≤ n ∧ n < i) ∧ validF (i + 1) l
def allParts (l : List NodeD) : List Int := l.flatMap (·.parts)
/-- Nodes that may be, each but the last used once. -/
structure Fine (cols : List ColD) (l : List NodeD) : Prop where
  nodes : ∀ nd ∈ l, nodeOk cols nd = true
  valid : validF 0 l
  once : ∀ t : Nat, t + 1 < l.length → cnt (allParts l) t = 1
end Go.Proofs.Ytjmfokglckaneaa.Sh
