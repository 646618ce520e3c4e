/- Stores and ends of rounds that tell what they leave; a slice of one's own beside the blocks of 'L'. -/
import Derived.Test.YtodokclcffejfaaEv30
set_option linter.unusedVariables false
set_option linter.unusedSimpArgs false
namespace Go.Proofs.Ev
open Go Go.RowKit
variable {β : Type} {P : Program} {n0 : Nat} {h0 h : AH} {L : List (Nat × AO)} {Q : β → Prop} {t : TypeId}
theorem Tl.storeX {x : Value} {K : Value × AH → Option β} {o b n : Nat} {vs : List Value} {e : TypeId} (S : Sta n0 h0 h L) (i : Nat) (hi : L[i]? = some (b, .cells vs e true)) (hs : szT P t = some n) (hn : x.cells.size = n) (hx : x.cells.toList.all oneCell = true)
    (hl : o + n ≤ vs.length) (hk : ∀ h', Sta n0 h0 h' (L.set i (b, .cells (splice vs o x.cells.toList) e true)) → (∀ j, j ≠ b → h'.get j = h.get j) → Tl (K (unk, h')) Q) :
    Tl (Ev.bnd (kSt (pStore P t (.pointer (some ⟨b, o, none⟩)) x h)) K) Q := by
  unfold pStore
  simp only
  rw [hs, hx, ← hn]
  simp only [Bool.true_and, beq_self_eq_true, if_true]
  have hg : h.get b = some (.cells vs e true) := S.mem.at_ hi
  unfold AH.put
  rw [hg]
  simp only
  rw [if_pos (by rw [Array.length_toList, hn]; exact hl)]
  exact hk _ (S.set i hi _) fun j hj => AH.get_set_other h _ (Ne.symm hj)
theorem rdEnd_normalX {l : Nat} {st : LoopState} {pend : Option Code} {f1 : FuncId} {ts1 : Array Value} {ps1 : Array Tmp} {as1 bd1 : Code} (S : Sta n0 h0 h L) (i : Nat)
    (hi : L[i]? = some (l, .loop st pend f1 ts1 ps1 as1 bd1)) : ∃ h', rdEnd l .normal h = some (.bool true, h') ∧ Sta n0 h0 h' (L.set i (l, .loop .ready none f1 ts1 ps1 as1 bd1)) ∧ ∀ j, j ≠ l → h'.get j = h.get j := by
  unfold rdEnd
  rw [S.mem.at_ hi]
  exact ⟨_, rfl, S.set i hi _, fun j hj => AH.get_set_other h _ (Ne.symm hj)⟩
theorem Tl.rdBeginX {l : Nat} {pend : Option Code} {f1 : FuncId} {ts1 : Array Value} {ps1 : Array Tmp} {as1 bd1 : Code} {K : AH → Option β} (S : Sta n0 h0 h L) (i : Nat)
    (hi : L[i]? = some (l, .loop .ready pend f1 ts1 ps1 as1 bd1)) (hk : ∀ h', Sta n0 h0 h' (L.set i (l, .loop .busy pend f1 ts1 ps1 as1 bd1)) → (∀ j, j ≠ l → h'.get j = h.get j) → Tl (K h') Q) : Tl (Ev.rdBegin l h K) Q := by
  unfold Ev.rdBegin
  rw [S.mem.at_ hi]
  exact hk _ (S.set i hi _) fun j hj => AH.get_set_other h _ (Ne.symm hj)
theorem Tl.bind {α : Type} {o : Option α} {K : α → Option β} {R : α → Prop} (C : Tl o R) (hk : ∀ r, R r → Tl (K r) Q) : Tl (Ev.bnd o K) Q := by
  obtain ⟨r, h1, h2⟩ := C
  subst h1
  exact hk r h2
theorem Sta.keep {h' : AH} (S : Sta n0 h0 h L) (hn : h.n ≤ h'.n) (hs : ∀ i, i < n0 → h'.get i = h.get i) (hL : ∀ p ∈ L, h'.get p.1 = h.get p.1) : Sta n0 h0 h' L :=
  ⟨S.grow.trans ⟨hn, hs⟩, S.base, S.mem.keep hL, S.new, S.nodup⟩
/-- A slice of one's own, apart from the blocks of 'L'. -/
def OwnL (P : Program) (n0 : Nat) (h : AH) (v : Value) (n : Nat) (rows : List (List Value)) (L : List (Nat × AO)) : Prop := v = .slice none 0 0 ∧ rows = [] ∨ ∃ b, n0 ≤ b ∧ b ∉ L.map (·.1) ∧ SlX P h v n b rows
theorem OwnL.list {v : Value} {n : Nat} {rows : List (List Value)} {L L' : List (Nat × AO)} (O : OwnL P n0 h v n rows L) (e : L'.map (·.1) = L.map (·.1)) : OwnL P n0 h v n rows L' := by
  unfold OwnL at O ⊢
  rw [e]; exact O
theorem OwnL.keep {h h' : AH} {v : Value} {n : Nat} {rows : List (List Value)} {L : List (Nat × AO)} (O : OwnL P n0 h v n rows L) (e : ∀ i, i ∉ L.map (·.1) → h'.get i = h.get i) : OwnL P n0 h' v n rows L := by
  rcases O with O | ⟨b, hb, hbL, X⟩
  · exact .inl O
  · exact .inr ⟨b, hb, hbL, X.keep (e b hbL)⟩
end Go.Proofs.Ev
