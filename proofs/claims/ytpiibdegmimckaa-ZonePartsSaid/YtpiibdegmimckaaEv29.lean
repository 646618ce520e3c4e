/- Slices of one's own, nil ones too; appended to. -/
import Derived.Test.YtpiibdegmimckaaEv28
set_option linter.unusedVariables false
set_option linter.unusedSimpArgs false
namespace Go.Proofs.Ev
open Go Go.RowKit
variable {P : Program}
/-- A slice that is nil, or one's own from 'n0' on and full. -/
def OwnB (P : Program) (n0 : Nat) (h : AH) (v : Value) (n : Nat) (rows : List (List Value)) : Prop :=
  v = .slice none 0 0 ∧ rows = [] ∨ ∃ b, n0 ≤ b ∧ SlX P h v n b rows
theorem OwnB.slV {n0 : Nat} {h : AH} {v : Value} {n : Nat} {rows : List (List Value)} (S : OwnB P n0 h v n rows) : SlV P h v n rows := by
  rcases S with S | ⟨b, _, S⟩
  · exact .inl S
  · exact S.slV
theorem OwnB.nil (n0 : Nat) (h : AH) (n : Nat) : OwnB P n0 h (.slice none 0 0) n [] := .inl ⟨rfl, rfl⟩
theorem OwnB.grow {n0 : Nat} {h h' : AH} {v : Value} {n : Nat} {rows : List (List Value)} (S : OwnB P n0 h v n rows) (g : Grow h h') : OwnB P n0 h' v n rows := by
  rcases S with S | ⟨b, hb, S⟩
  · exact .inl S
  · exact .inr ⟨b, hb, S.keep (g.2 b S.lie.lt)⟩
theorem append_ownB {ts : Array TypeId} {e n bytes : Nat} (T : AppT P ts e n bytes) {h : AH} {v x : Value} {n0 : Nat} {rows rows' : List (List Value)} (A : OwnB P n0 h v n rows) (B : SlV P h x n rows')
    (hbig : (rows.length + rows'.length + 1024) * (bytes + 1) ≤ 2 ^ 46) (hone : rows'.flatten.all oneCell = true) (hn0 : n0 ≤ h.n) :
    ∃ v' h', pAppend P ts v x h = some (v', h') ∧ OwnB P n0 h' v' n (rows ++ rows') ∧ GrowFrom n0 h h' := by
  rcases A with ⟨rfl, rfl⟩ | ⟨b, hb, A⟩
  · by_cases hne : rows' = []
    · subst hne
      refine ⟨.slice none 0 0, h, ?_, .inl ⟨rfl, rfl⟩, GrowFrom.refl _ _⟩
      obtain ⟨e', he'⟩ := T.other
      obtain ⟨z, hz, hzp, hzs⟩ := T.zero
      obtain ⟨m, rfl⟩ : ∃ m, n = m + 1 := ⟨n - 1, by have := T.pos; omega⟩
      have hB := B.cellsOf (by omega)
      unfold pAppend
      rw [T.elem, he']
      simp only [isIntT_slice, Bool.false_eq_true, if_false, T.size, T.byt, lenE_of B, hz, hB]
      rfl
    · have hpos : 0 < rows'.length := List.length_pos_iff.2 hne
      have A' : SlV P h (.slice none ([] : List (List Value)).length 0) n [] := .inl ⟨rfl, rfl⟩
      obtain ⟨h', h1, h2, hz, h3, h4⟩ := append_new T A' B rfl (by simpa using hpos) hbig hone
      refine ⟨_, h', h1, .inr ⟨h.n, hn0, ⟨by simp, h2, hz⟩⟩, ⟨by omega, fun i hi => h4 i (by omega) fun a' ha => by cases ha⟩⟩
  · obtain ⟨v', h', b', e1, e2, e3, e4⟩ := append_own T A B hbig hone hb
    exact ⟨v', h', e1, .inr ⟨b', e3, e2⟩, e4⟩
theorem GrowFrom.size {n : Nat} {h h' : AH} (g : GrowFrom n h h') : h.n ≤ h'.n := g.1
/-- One value more. -/
theorem slV_one {h : AH} {e n : Nat} {r : List Value} (hr : r.length = n) : SlV P (h.alloc (.cells r e true)) (.slice (some ⟨h.n, 0, none⟩) 1 1) n [r] :=
  .inr ⟨h.n, 0, 1, true, rfl, Nat.le_refl _, ⟨⟨r, e, AH.get_alloc_new _ _, fun _ => ⟨by simp [hr], by simp [← hr]⟩⟩, fun q hq => by simp at hq; rw [hq]; exact hr⟩⟩
end Go.Proofs.Ev
