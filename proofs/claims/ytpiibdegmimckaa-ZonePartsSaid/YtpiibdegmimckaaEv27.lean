/- Slices of rows: read by place, appended to. -/
import Derived.Test.YtpiibdegmimckaaEv26
set_option linter.unusedVariables false
set_option linter.unusedSimpArgs false
namespace Go.Proofs.Ev
open Go Go.RowKit
variable {P : Program}

theorem cell_of_row {h : AH} {b o n j : Nat} {r : List Value} (hr : h.row b o n = some r) (hj : j < n) : h.cell b (o + j) = r[j]? := by
  unfold AH.row at hr
  unfold AH.cell
  split at hr
  · rename_i cs e own hg
    split at hr
    · rename_i hle
      simp only [Option.some.injEq] at hr
      subst hr
      rw [List.getElem?_take_of_lt hj, List.getElem?_drop]
    · cases hr
  · cases hr
theorem Grow.trans' {a b c : AH} (h1 : Grow a b) (h2 : GrowFrom a.n b c) : Grow a c := ⟨Nat.le_trans h1.1 h2.1, fun i hi => (h2.2 i hi).trans (h1.2 i hi)⟩
/-- A row of a slice: where it is, and what is read there. -/
theorem SlV.at_ {h : AH} {v : Value} {n : Nat} {rows : List (List Value)} (S : SlV P h v n rows) {t e : TypeId} {k : IntKind} {i : Nat} {r : List Value} (hi : rows[i]? = some r) (ht : P.underlying t = some (.slice e)) (hs : szT P e = some n) :
    ∃ b o, pIndexAddr P t v (.int k i) = some (.pointer (some ⟨b, o, none⟩)) ∧ h.row b o n = some r := by
  have hlt : i < rows.length := (List.getElem?_eq_some_iff.1 hi).1
  rcases S with ⟨rfl, rfl⟩ | ⟨b, off, cap, own, rfl, h2, L⟩
  · simp at hi
  · exact ⟨b, off + i * n, (indexAddr_slice ht hs (by omega) (by omega)).trans (by simp), L.row hi⟩
theorem SlV.len {h : AH} {v : Value} {n : Nat} {rows : List (List Value)} (S : SlV P h v n rows) {t e : TypeId} (ht : P.underlying t = some (.slice e)) {h' : AH} : pLen P #[t] v h' = some (.int .i64 rows.length) := by
  obtain ⟨a, cap, rfl, _⟩ := S.form
  exact len_slice ht
/-- A slice of one's own that fills its block. -/
structure SlX (P : Program) (h : AH) (v : Value) (n b : Nat) (rows : List (List Value)) : Prop where
  form : v = .slice (some ⟨b, 0, none⟩) rows.length rows.length
  lie : Lie P h b 0 n true rows
  sz : szOk P (some ⟨b, 0, none⟩) n h = true
theorem SlX.slV {h : AH} {v : Value} {n b : Nat} {rows : List (List Value)} (S : SlX P h v n b rows) : SlV P h v n rows := .inr ⟨b, 0, rows.length, true, S.form, Nat.le_refl _, S.lie⟩
theorem SlX.keep {h h' : AH} {v : Value} {n b : Nat} {rows : List (List Value)} (S : SlX P h v n b rows) (g : h'.get b = h.get b) : SlX P h' v n b rows := ⟨S.form, S.lie.grow g, by have := S.sz; unfold szOk at *; simp only at *; rw [g]; exact this⟩
/-- The types that an append of a slice asks of. -/
structure AppT (P : Program) (ts : Array TypeId) (e n bytes : Nat) : Prop where
  elem : ts[0]?.bind (elemT P) = some e
  other : ∃ e', ts[1]?.bind P.underlying = some (.slice e')
  size : szT P e = some n
  pos : 0 < n
  byt : bytesT P e = some bytes
  zero : ∃ z, zeroT P e = some z ∧ z.cells.toList.all plain0 = true ∧ z.cells.size = n
theorem isIntT_slice (e : TypeId) : isIntT (.slice e) = false := rfl
theorem kill_get {h : AH} {b o i : Nat} (hi : i ≠ b) : (kill h b o).get i = h.get i := by
  unfold kill
  split
  · split
    · exact AH.get_set_other h _ (fun h => hi h.symm)
    · rfl
  · rfl
theorem lenE_of {h : AH} {v : Value} {n : Nat} {rows : List (List Value)} (S : SlV P h v n rows) : lenE v = some rows.length := by
  obtain ⟨a, cap, rfl, _⟩ := S.form
  rfl
theorem szOk_of {h : AH} {b n : Nat} {cs : List Value} {e : TypeId} {own : Bool} (hg : h.get b = some (.cells cs e own)) (hs : szT P e = some n) : szOk P (some ⟨b, 0, none⟩) n h = true := by
  unfold szOk
  simp [hg, hs]
/-- More than fits: new memory. -/
theorem append_new {ts : Array TypeId} {e n bytes : Nat} (T : AppT P ts e n bytes) {h : AH} {a : Option Addr} {cap : Nat} {x : Value} {rows rows' : List (List Value)} (A : SlV P h (.slice a rows.length cap) n rows) (B : SlV P h x n rows')
    (hszok : szOk P a n h = true) (hfull : cap < rows.length + rows'.length) (hbig : (rows.length + rows'.length + 1024) * (bytes + 1) ≤ 2 ^ 46) (hone : rows'.flatten.all oneCell = true) :
    ∃ h', pAppend P ts (.slice a rows.length cap) x h = some (.slice (some ⟨h.n, 0, none⟩) (rows.length + rows'.length) (rows.length + rows'.length), h') ∧ Lie P h' h.n 0 n true (rows ++ rows') ∧ szOk P (some ⟨h.n, 0, none⟩) n h' = true ∧ h'.n = h.n + 1 ∧
      ∀ i, i < h.n → (∀ a', a = some a' → i ≠ a'.block) → h'.get i = h.get i := by
  obtain ⟨e', he'⟩ := T.other
  obtain ⟨z, hz, hzp, hzs⟩ := T.zero
  obtain ⟨m, rfl⟩ : ∃ m, n = m + 1 := ⟨n - 1, by have := T.pos; omega⟩
  have hA := A.cellsOf (by omega)
  have hB := B.cellsOf (by omega)
  have hwA : ∀ r ∈ rows, r.length = m + 1 := by
    rcases A with ⟨_, rfl⟩ | ⟨_, _, _, _, _, _, L⟩
    · intro r hr; cases hr
    · exact L.wide
  have hwB : ∀ r ∈ rows', r.length = m + 1 := by
    rcases B with ⟨_, rfl⟩ | ⟨_, _, _, _, _, _, L⟩
    · intro r hr; cases hr
    · exact L.wide
  unfold pAppend
  rw [T.elem, he']
  simp only [isIntT_slice, Bool.false_eq_true, if_false, T.size, T.byt, lenE_of B, hz, hA, hB]
  rw [if_neg (by omega), if_pos (by
    simp only [Bool.and_eq_true, decide_eq_true_eq, beq_iff_eq]
    exact ⟨⟨⟨⟨⟨hbig, hzp⟩, hzs⟩, hszok⟩, hone⟩, by rw [length_flat hwB]⟩)]
  have hnew : AH.get ((match a with
      | none => h
      | some a => kill h a.block (a.off + cap * (m + 1))).alloc (.cells (rows.flatten ++ rows'.flatten) e true)) h.n = some (.cells (rows.flatten ++ rows'.flatten) e true) := by
    cases a with
    | none => exact AH.get_alloc_new _ _
    | some a => have := AH.get_alloc_new (kill h a.block (a.off + cap * (m + 1))) (.cells (rows.flatten ++ rows'.flatten) e true); rw [kill_n] at this; exact this
  refine ⟨_, rfl, ⟨⟨rows.flatten ++ rows'.flatten, e, hnew, fun _ => ⟨?_, ?_⟩⟩, ?_⟩, ?_, ?_, ?_⟩
  · simp [length_flat hwA, length_flat hwB, Nat.add_mul]
  · have : (rows ++ rows').length * (m + 1) = (rows.flatten ++ rows'.flatten).length := by simp [length_flat hwA, length_flat hwB, Nat.add_mul]
    rw [this, List.drop_zero, List.take_length, List.flatten_append]
  · intro r hr
    rcases List.mem_append.1 hr with hr | hr
    · exact hwA r hr
    · exact hwB r hr
  · exact szOk_of hnew T.size
  · cases a with
    | none => simp
    | some a => simp [kill_n]
  · intro i hi ha
    cases a with
    | none => exact AH.get_alloc_old _ _ hi
    | some a => exact (AH.get_alloc_old _ _ (by rw [kill_n]; exact hi)).trans (kill_get (ha a rfl))
/-- Appended to a slice of one's own that fills its block. -/
theorem append_own {ts : Array TypeId} {e n bytes : Nat} (T : AppT P ts e n bytes) {h : AH} {v : Value} {b : Nat} {x : Value} {rows rows' : List (List Value)} (A : SlX P h v n b rows) (B : SlV P h x n rows')
    (hbig : (rows.length + rows'.length + 1024) * (bytes + 1) ≤ 2 ^ 46) (hone : rows'.flatten.all oneCell = true) {n0 : Nat} (hb : n0 ≤ b) :
    ∃ v' h' b', pAppend P ts v x h = some (v', h') ∧ SlX P h' v' n b' (rows ++ rows') ∧ n0 ≤ b' ∧ GrowFrom n0 h h' := by
  have hblt := A.lie.lt
  by_cases hne : rows' = []
  · subst hne
    refine ⟨v, h, b, ?_, by simpa using A, hb, GrowFrom.refl _ _⟩
    obtain ⟨e', he'⟩ := T.other
    obtain ⟨z, hz, hzp, hzs⟩ := T.zero
    obtain ⟨m, rfl⟩ : ∃ m, n = m + 1 := ⟨n - 1, by have := T.pos; omega⟩
    have hA := A.slV.cellsOf (by omega)
    have hB := B.cellsOf (by omega)
    rw [A.form] at hA ⊢
    unfold pAppend
    rw [T.elem, he']
    simp only [isIntT_slice, Bool.false_eq_true, if_false, T.size, T.byt, lenE_of B, hz, hA, hB]
    rw [if_pos (by simp)]
    simp
  · have hpos : 0 < rows'.length := List.length_pos_iff.2 hne
    have A' := A.slV
    rw [A.form] at A' ⊢
    obtain ⟨h', h1, h2, hz, h3, h4⟩ := append_new T A' B A.sz (by omega) hbig hone
    refine ⟨_, h', h.n, h1, ⟨by simp, h2, hz⟩, by omega, ⟨by omega, fun i hi => h4 i (by omega) fun a' ha => ?_⟩⟩
    cases ha
    simp only
    omega
end Go.Proofs.Ev
