/- Slices of rows in the abstract memory: read, appended, cut. -/
import Derived.Test.YtpiibdegmimckaaEv23
set_option linter.unusedVariables false
set_option linter.unusedSimpArgs false
namespace Go.Proofs.Ev
open Go Go.RowKit

/-- What lay before lies as it did. -/
def Grow (h h' : AH) : Prop := h.n ≤ h'.n ∧ ∀ i, i < h.n → h'.get i = h.get i
theorem Grow.refl (h : AH) : Grow h h := ⟨Nat.le_refl _, fun _ _ => rfl⟩
theorem Grow.trans {a b c : AH} (h1 : Grow a b) (h2 : Grow b c) : Grow a c := ⟨Nat.le_trans h1.1 h2.1, fun i hi => (h2.2 i (Nat.lt_of_lt_of_le hi h1.1)).trans (h1.2 i hi)⟩
theorem Grow.alloc (h : AH) (o : AO) : Grow h (h.alloc o) := ⟨by simp, fun i hi => AH.get_alloc_old h o hi⟩
theorem Grow.get {h h' : AH} (g : Grow h h') {i : Nat} {o : AO} (hi : h.get i = some o) : h'.get i = some o := (g.2 i (AH.get_lt hi)).trans hi
/-- What lay before lies as it did, or lies newly. (From 'n' on all may have turned.) -/
def GrowFrom (n : Nat) (h h' : AH) : Prop := h.n ≤ h'.n ∧ ∀ i, i < n → h'.get i = h.get i
theorem GrowFrom.refl (n : Nat) (h : AH) : GrowFrom n h h := ⟨Nat.le_refl _, fun _ _ => rfl⟩
theorem GrowFrom.trans {n : Nat} {a b c : AH} (h1 : GrowFrom n a b) (h2 : GrowFrom n b c) : GrowFrom n a c := ⟨Nat.le_trans h1.1 h2.1, fun i hi => (h2.2 i hi).trans (h1.2 i hi)⟩
theorem Grow.from {n : Nat} {h h' : AH} (g : Grow h h') (hn : n ≤ h.n) : GrowFrom n h h' := ⟨g.1, fun i hi => g.2 i (Nat.lt_of_lt_of_le hi hn)⟩
theorem GrowFrom.grow {h h' : AH} (g : GrowFrom h.n h h') : Grow h h' := g
theorem GrowFrom.set {n i : Nat} (h : AH) (o : AO) (hi : n ≤ i) : GrowFrom n h (h.set i o) := ⟨by simp, fun j hj => AH.get_set_other h o (by omega)⟩

theorem length_flat {n : Nat} : ∀ {rows : List (List Value)}, (∀ r ∈ rows, r.length = n) → rows.flatten.length = rows.length * n := by
  intro rows
  induction rows with
  | nil => intro _; simp
  | cons r rows ih =>
    intro h
    rw [List.flatten_cons, List.length_append, ih fun x hx => h x (by simp [hx]), h r (by simp), List.length_cons, Nat.succ_mul, Nat.add_comm]
theorem flat_row {n : Nat} : ∀ {rows : List (List Value)} {i : Nat} {r : List Value}, (∀ r ∈ rows, r.length = n) → rows[i]? = some r → (rows.flatten.drop (i * n)).take n = r := by
  intro rows
  induction rows with
  | nil => intro i r _ h; simp at h
  | cons q rows ih =>
    intro i r hn h
    have hq := hn q (by simp)
    cases i with
    | zero =>
      simp only [List.getElem?_cons_zero, Option.some.injEq] at h
      subst h
      simp [← hq]
    | succ i =>
      simp only [List.getElem?_cons_succ] at h
      rw [List.flatten_cons, Nat.succ_mul, Nat.add_comm, ← hq, ← List.drop_drop, List.drop_left, hq]
      exact ih (fun x hx => hn x (by simp [hx])) h

/-- Rows that lie in a block from a place on. -/
structure Lie (P : Program) (h : AH) (b off n : Nat) (own : Bool) (rows : List (List Value)) : Prop where
  lies : ∃ cs e, h.get b = some (.cells cs e own) ∧ (rows ≠ [] → off + rows.length * n ≤ cs.length ∧ (cs.drop off).take (rows.length * n) = rows.flatten)
  wide : ∀ r ∈ rows, r.length = n
theorem Lie.row {P : Program} {h : AH} {b off n : Nat} {own : Bool} {rows : List (List Value)} (L : Lie P h b off n own rows) {i : Nat} {r : List Value} (hi : rows[i]? = some r) : h.row b (off + i * n) n = some r := by
  obtain ⟨⟨cs, e, h1, h2⟩, h5⟩ := L
  have hlt : i < rows.length := (List.getElem?_eq_some_iff.1 hi).1
  obtain ⟨h3, h4⟩ := h2 (by rintro rfl; simp at hlt)
  have hle : (i + 1) * n ≤ rows.length * n := Nat.mul_le_mul_right n hlt
  rw [Nat.succ_mul] at hle
  unfold AH.row
  rw [h1]
  simp only
  rw [if_pos (by omega)]
  have := flat_row h5 hi
  rw [← h4, List.drop_take, List.take_take, List.drop_drop] at this
  rw [Nat.min_eq_left (by omega)] at this
  rw [this]
theorem Lie.cell {P : Program} {h : AH} {b off : Nat} {own : Bool} {rows : List (List Value)} (L : Lie P h b off 1 own rows) {i : Nat} {v : Value} (hi : rows[i]? = some [v]) : h.cell b (off + i) = some v := by
  have := L.row hi
  unfold AH.row at this
  unfold AH.cell
  split at this
  · rename_i cs e o hg
    rw [Nat.mul_one] at this
    split at this
    · rename_i hle
      simp only [Option.some.injEq] at this
      have h0 : ((cs.drop (off + i)).take 1)[0]? = some v := by rw [this]; rfl
      rw [List.getElem?_take_of_lt (by omega), List.getElem?_drop] at h0
      exact h0
    · cases this
  · cases this
theorem Lie.flat {P : Program} {h : AH} {b off n : Nat} {own : Bool} {rows : List (List Value)} (L : Lie P h b off n own rows) (hne : rows ≠ []) : h.row b off (rows.length * n) = some rows.flatten := by
  obtain ⟨⟨cs, e, h1, h2⟩, h5⟩ := L
  obtain ⟨h3, h4⟩ := h2 hne
  unfold AH.row
  rw [h1]
  simp only
  rw [if_pos h3, h4]
theorem Lie.grow {P : Program} {h h' : AH} {b off n : Nat} {own : Bool} {rows : List (List Value)} (L : Lie P h b off n own rows) (g : h'.get b = h.get b) : Lie P h' b off n own rows := by
  obtain ⟨⟨cs, e, h1, h2⟩, h5⟩ := L
  exact ⟨⟨cs, e, g.trans h1, h2⟩, h5⟩
theorem Lie.lt {P : Program} {h : AH} {b off n : Nat} {own : Bool} {rows : List (List Value)} (L : Lie P h b off n own rows) : b < h.n := by
  obtain ⟨⟨cs, e, h1, _⟩, _⟩ := L
  exact AH.get_lt h1
theorem flat_take_drop {n : Nat} {rows : List (List Value)} (hn : ∀ r ∈ rows, r.length = n) (i m : Nat) : ((rows.drop i).take m).flatten = (rows.flatten.drop (i * n)).take (((rows.drop i).take m).length * n) := by
  induction rows generalizing i m with
  | nil => simp
  | cons r rows ih =>
    have hr := hn r (by simp)
    have hn' : ∀ x ∈ rows, x.length = n := fun x hx => hn x (by simp [hx])
    cases i with
    | succ i =>
      rw [List.drop_succ_cons, List.flatten_cons, Nat.succ_mul, Nat.add_comm, ← hr, ← List.drop_drop, List.drop_left, hr]
      exact ih hn' i m
    | zero =>
      cases m with
      | zero => simp
      | succ m =>
        have := ih hn' 0 m
        simp only [List.drop_zero, Nat.zero_mul] at this ⊢
        rw [List.take_succ_cons, List.flatten_cons, List.flatten_cons, List.length_cons, Nat.succ_mul, Nat.add_comm, ← hr, List.take_length_add_append, hr, this]
/-- A part of what lies. -/
theorem Lie.part {P : Program} {h : AH} {b off n : Nat} {own : Bool} {rows : List (List Value)} (L : Lie P h b off n own rows) (i m : Nat) (hi : i ≤ rows.length) : Lie P h b (off + i * n) n own ((rows.drop i).take m) := by
  obtain ⟨⟨cs, e, h1, h2⟩, h5⟩ := L
  have hlen : ((rows.drop i).take m).length ≤ rows.length - i := by simp; omega
  have hmul : ((rows.drop i).take m).length * n + i * n ≤ rows.length * n := by
    rw [← Nat.add_mul]; exact Nat.mul_le_mul_right n (by omega)
  refine ⟨⟨cs, e, h1, fun hne => ?_⟩, fun r hr => h5 r (List.mem_of_mem_drop (List.mem_of_mem_take hr))⟩
  obtain ⟨h3, h4⟩ := h2 (by rintro rfl; simp at hne)
  refine ⟨by omega, ?_⟩
  rw [flat_take_drop h5, ← h4, List.drop_take, List.take_take, List.drop_drop, Nat.min_eq_left (by omega)]

/-- A slice of rows. -/
def SlV (P : Program) (h : AH) (v : Value) (n : Nat) (rows : List (List Value)) : Prop :=
  v = .slice none 0 0 ∧ rows = [] ∨ ∃ b off cap own, v = .slice (some ⟨b, off, none⟩) rows.length cap ∧ rows.length ≤ cap ∧ Lie P h b off n own rows
theorem SlV.grow {P : Program} {h h' : AH} {v : Value} {n : Nat} {rows : List (List Value)} (S : SlV P h v n rows) (g : Grow h h') : SlV P h' v n rows := by
  rcases S with S | ⟨b, off, cap, own, h1, h2, L⟩
  · exact .inl S
  · exact .inr ⟨b, off, cap, own, h1, h2, L.grow (g.2 b L.lt)⟩
theorem SlV.form {P : Program} {h : AH} {v : Value} {n : Nat} {rows : List (List Value)} (S : SlV P h v n rows) : ∃ a cap, v = .slice a rows.length cap ∧ rows.length ≤ cap := by
  rcases S with ⟨rfl, rfl⟩ | ⟨b, off, cap, own, h1, h2, L⟩
  · exact ⟨_, _, rfl, Nat.le_refl _⟩
  · exact ⟨_, _, h1, h2⟩
/-- What 'cellsOf' tells of the whole of it. -/
theorem SlV.cellsOf {P : Program} {h : AH} {v : Value} {n : Nat} {rows : List (List Value)} (S : SlV P h v n rows) (hn : 0 < n) : cellsOf P n rows.length v h = some rows.flatten := by
  rcases S with ⟨rfl, rfl⟩ | ⟨b, off, cap, own, h1, h2, L⟩
  · rfl
  · subst h1
    unfold Ev.cellsOf
    simp only
    by_cases hz : rows.length * n = 0
    · rw [if_pos hz]
      have : rows = [] := by
        rcases Nat.mul_eq_zero.1 hz with h | h
        · exact List.length_eq_zero_iff.1 h
        · omega
      subst this; rfl
    · rw [if_neg hz, if_pos (Nat.le_refl _)]
      exact L.flat (by rintro rfl; simp at hz)
end Go.Proofs.Ev
