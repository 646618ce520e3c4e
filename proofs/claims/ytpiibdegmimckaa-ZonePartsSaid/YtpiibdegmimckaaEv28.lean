/- A slice that is handed in: its rows lie in the memory of the call's arguments. -/
import Derived.Test.YtpiibdegmimckaaEv27
set_option linter.unusedVariables false
set_option linter.unusedSimpArgs false
namespace Go.Proofs.Ev
open Go Go.RowKit Go.ChangeShapes Go.WideShapes
variable {P : Program}

theorem flat_range {L : List Value} {o n : Nat} : ∀ len : Nat, ((List.range len).map fun i => (L.drop (o + i * n)).take n).flatten = (L.drop o).take (len * n) := by
  intro len
  induction len with
  | zero => simp
  | succ len ih =>
    rw [List.range_succ, List.map_append, List.flatten_append, ih, Nat.succ_mul, List.take_add, List.drop_drop]
    simp
theorem mapM_at {α β : Type} {f : α → Option β} : ∀ {xs : List α} {ys : List β}, xs.mapM f = some ys → ys.length = xs.length ∧ ∀ (j : Nat) (x : α), xs[j]? = some x → f x = ys[j]? := by
  intro xs
  induction xs with
  | nil => intro ys h; simp at h; subst h; exact ⟨rfl, fun j i h => by simp at h⟩
  | cons x xs ih =>
    intro ys h
    simp only [List.mapM_cons, Option.bind_eq_bind, Option.bind_eq_some_iff, Option.pure_def, Option.some.injEq] at h
    obtain ⟨v, hv, vs, hvs, rfl⟩ := h
    obtain ⟨h1, h2⟩ := ih hvs
    refine ⟨by simp [h1], fun j i hj => ?_⟩
    cases j with
    | zero => simp at hj; subst hj; exact hv
    | succ j => exact h2 j i (by simpa using hj)
theorem okSlice {W : World} {r : Reach} {b0 : Nat} {t e : TypeId} {v : Value} (ht : P.underlying t = some (.slice e)) (hv : Value.okWide P W r b0 t v) :
    v = .slice none 0 0 ∨ ∃ a len cap, v = .slice (some a) len cap ∧ World.has P W r b0 a e cap := by
  unfold Value.okWide at hv
  rw [ht] at hv
  simp only at hv
  unfold Cell.okWide at hv
  rw [ht] at hv
  have hv : Cell.ok P W r b0 t v := by
    split at hv <;> first | exact hv | (rename_i h; cases h)
  unfold Cell.ok at hv
  rw [ht] at hv
  cases v with
  | slice o len cap =>
    cases o with
    | none =>
      simp only at hv
      split at hv
      all_goals first
        | exact .inl rfl
        | exact absurd hv id
        | (simp_all; done)
    | some a => exact .inr ⟨_, _, _, rfl, hv.2.2⟩
  | _ => exact absurd hv id
theorem addr_add (b o n : Nat) : (⟨b, o, none⟩ : Addr).add n = ⟨b, o + n, none⟩ := by
  unfold Addr.add
  split
  · rename_i h; subst h; rfl
  · rfl
/-- A slice of rows that are handed in. -/
def SlE (P : Program) (h : AH) (v : Value) (n : Nat) (rows : List (List Value)) : Prop :=
  v = .slice none 0 0 ∧ rows = [] ∨ ∃ b off cap, v = .slice (some ⟨b, off, none⟩) rows.length cap ∧ rows.length ≤ cap ∧ Lie P h b off n false rows
theorem SlE.slV {h : AH} {v : Value} {n : Nat} {rows : List (List Value)} (S : SlE P h v n rows) : SlV P h v n rows := by
  rcases S with S | ⟨b, off, cap, h1, h2, L⟩
  · exact .inl S
  · exact .inr ⟨b, off, cap, false, h1, h2, L⟩
theorem SlE.grow {h h' : AH} {v : Value} {n : Nat} {rows : List (List Value)} (S : SlE P h v n rows) (g : Grow h h') : SlE P h' v n rows := by
  rcases S with S | ⟨b, off, cap, h1, h2, L⟩
  · exact .inl S
  · exact .inr ⟨b, off, cap, h1, h2, L.grow (g.2 b L.lt)⟩
/-- A part of it. -/
theorem SlE.slice {h : AH} {v : Value} {n : Nat} {rows : List (List Value)} (S : SlE P h v n rows) {t e : TypeId} (ht : P.underlying t = some (.slice e)) (hs : szT P e = some n) {lo hi : Option Value} {i j : Nat}
    (hlo : intOr 0 lo = some (i : Int)) (hhi : intOr (rows.length : Int) hi = some (j : Int)) (hij : i ≤ j) (hj : j ≤ rows.length) :
    ∃ v', (∀ h', Grow h h' → pSlice P t v lo hi none h' = some v') ∧ SlE P h v' n ((rows.drop i).take (j - i)) ∧ sameV v' v' = true := by
  have hel : elemT P t = some e := by unfold elemT; rw [ht]
  rcases S with ⟨rfl, rfl⟩ | ⟨b, off, cap, rfl, h2, L⟩
  · have : j = 0 := by simpa using hj
    subst this
    have : i = 0 := by omega
    subst this
    refine ⟨.slice none 0 0, fun h' _ => ?_, .inl ⟨rfl, rfl⟩, by simp [sameV, same0]⟩
    have hhi' : intOr ((0 : Nat) : Int) hi = some 0 := by simpa using hhi
    have hm : intOr ((0 : Nat) : Int) none = some 0 := rfl
    have hlo' : intOr 0 lo = some 0 := hlo
    unfold pSlice
    simp only [hel, Option.bind_some, hs, hlo', hhi', hm]
    simp
  · refine ⟨.slice (some ⟨b, off + i * n, none⟩) (j - i) (cap - i), fun h' g => ?_, .inr ⟨b, off + i * n, cap - i, ?_, ?_, L.part i (j - i) (by omega)⟩, by simp [sameV, same0]⟩
    · obtain ⟨⟨cs, e', hg, _⟩, _⟩ := L
      have hz : szOk P (some ⟨b, off, none⟩) n h' = true := by
        unfold szOk
        simp only [g.get hg]
        rfl
      have hm : intOr (cap : Int) none = some (cap : Int) := rfl
      unfold pSlice
      simp only [hel, Option.bind_some, hs, hlo, hhi, hm]
      rw [if_pos ⟨by omega, by omega, by omega, by omega, .inl rfl, .inr (.inr hz)⟩]
      simp only [Option.map_some, Int.toNat_natCast, Option.some.injEq, Value.slice.injEq, true_and]
      omega
    · congr 1
      simp
      omega
    · simp
      omega
theorem open_rowsE {H : Type} {enc : TypeId × Value → H} {W : World} {base b0 : Nat} {sp : Nat → Bool} {held : Bool} {r : Reach} {t e : TypeId} {n : Nat} {v : Value} {d : DataW H} {ps : List MemPlace}
    (ht : P.underlying t = some (.slice e)) (hc : P.cellsOf e = n) (hpos : 0 < n) (hv : Value.okWide P W r b0 t v) (hd : DataW.Trod enc P W base sp held t v d ps) :
    ∃ rows : List (List Value), SlE P (extHeap W) (tame W.heap.size 8 v) n (rows.map fun q => q.map (tame W.heap.size 8)) ∧ rows.length ≤ maxLen ∧ ∀ (i : Nat) (q : List Value), rows[i]? = some q → ∃ fuel y, DataW.trod enc P W base sp held fuel e q = some y := by
  obtain ⟨fuel, hf⟩ := hd
  rcases okSlice ht hv with rfl | ⟨a, len, cap, rfl, hhas⟩
  · exact ⟨[], .inl ⟨rfl, rfl⟩, Nat.zero_le _, fun i q h => by simp at h⟩
  · rcases DataW.trod_slice ht hf with ⟨hcs, _⟩ | ⟨a', len', cap', elems, rest, m, rfl, hcs, _, hb, hl, hcap, hel, hget, _, _⟩
    · simp [Value.cells] at hcs
    · simp only [Value.cells, List.cons.injEq, Value.slice.injEq, Option.some.injEq, and_true] at hcs
      obtain ⟨rfl, rfl, rfl⟩ := hcs
      obtain ⟨_, hspot, row, cells, hshape, _⟩ := hhas
      obtain ⟨blk, off, spot⟩ := a
      simp only at hspot
      subst hspot
      unfold World.shape? at hshape
      split at hshape
      case h_2 => cases hshape
      rename_i c e' fz hheap
      have hcell : ∀ o, W.cell? ⟨blk, o, none⟩ = c[o]? := fun o => by unfold World.cell?; simp only [hheap]; simp
      have hlt : blk < W.heap.size := (Array.getElem?_eq_some_iff.1 hheap).1
      rw [hc] at hget
      have each : ∀ i, i < len → off + i * n + n ≤ c.size ∧ ∃ fuel y, DataW.trod enc P W base sp held fuel e ((c.toList.drop (off + i * n)).take n) = some y := by
        intro i hi
        have h1 := hget i hi
        obtain ⟨y, hy⟩ : ∃ y, elems[i]? = some y := ⟨_, List.getElem?_eq_getElem (by rw [hel]; exact hi)⟩
        rw [hy, Option.bind_eq_some_iff] at h1
        obtain ⟨cs, h2, h3⟩ := h1
        unfold World.cells? at h2
        split at h2
        case isFalse => cases h2
        obtain ⟨h4, h5⟩ := mapM_at h2
        have h6 : ∀ j, j < n → cs[j]? = c[off + i * n + j]? := by
          intro j hj
          have := h5 j j (by simp [hj])
          refine Eq.trans this.symm ?_
          have q := hcell (off + i * n + j)
          rw [addr_add, addr_add]
          exact q
        have h7 : off + i * n + n ≤ c.size := by
          have h8 := h6 (n - 1) (by omega)
          have h9 : n - 1 < cs.length := by rw [h4]; simp; omega
          rw [List.getElem?_eq_getElem h9] at h8
          have := (Array.getElem?_eq_some_iff.1 h8.symm).1
          omega
        refine ⟨h7, m, y, ?_⟩
        have : (c.toList.drop (off + i * n)).take n = cs := by
          refine List.ext_getElem? fun j => ?_
          by_cases hj : j < n
          · rw [List.getElem?_take_of_lt hj, List.getElem?_drop, h6 j hj]
            simp
          · rw [List.getElem?_eq_none (by simp; omega), List.getElem?_eq_none (by rw [h4]; simp; omega)]
        rw [this]
        exact h3
      refine ⟨(List.range len).map fun i => (c.toList.drop (off + i * n)).take n, .inr ⟨blk, off, cap, ?_, by simpa using hl, ⟨⟨c.toList.map (tame W.heap.size 8), e', ?_, ?_⟩, ?_⟩⟩, by simp; omega, ?_⟩
      · have : tameAddr W.heap.size ⟨blk, off, none⟩ = true := by simp [tameAddr, hlt]
        simp [tame, this]
      · rw [extHeap_get, hheap]
        rfl
      · intro hne
        have hlen : 0 < len := by
          rcases Nat.eq_zero_or_pos len with h | h
          · subst h; simp at hne
          · exact h
        have hb1 := (each (len - 1) (by omega)).1
        have hmul : (len - 1) * n + n = len * n := by
          rw [← Nat.succ_mul]; congr 1; omega
        simp only [List.length_map, List.length_range]
        refine ⟨by rw [Array.length_toList]; omega, ?_⟩
        rw [← flat_range (L := c.toList.map (tame W.heap.size 8)) len]
        simp [List.map_take, List.map_drop, Function.comp_def]
      · intro q hq
        simp only [List.map_map, List.mem_map, List.mem_range, Function.comp_apply] at hq
        obtain ⟨i, hi, rfl⟩ := hq
        have := (each i hi).1
        simp
        omega
      · intro i q hq
        simp only [List.getElem?_map, Option.map_eq_some_iff] at hq
        obtain ⟨j, hj, rfl⟩ := hq
        have : j = i ∧ i < len := by
          have := List.getElem?_eq_some_iff.1 hj
          obtain ⟨h1, h2⟩ := this
          simp at h1 h2
          omega
        obtain ⟨rfl, hi⟩ := this
        exact (each j hi).2
theorem open_rows {H : Type} {enc : TypeId × Value → H} {W : World} {base b0 : Nat} {sp : Nat → Bool} {held : Bool} {r : Reach} {t e : TypeId} {n : Nat} {v : Value} {d : DataW H} {ps : List MemPlace}
    (ht : P.underlying t = some (.slice e)) (hc : P.cellsOf e = n) (hpos : 0 < n) (hv : Value.okWide P W r b0 t v) (hd : DataW.Trod enc P W base sp held t v d ps) :
    ∃ rows : List (List Value), SlV P (extHeap W) (tame W.heap.size 8 v) n (rows.map fun q => q.map (tame W.heap.size 8)) ∧ rows.length ≤ maxLen ∧ ∀ (i : Nat) (q : List Value), rows[i]? = some q → ∃ fuel y, DataW.trod enc P W base sp held fuel e q = some y := by
  obtain ⟨rows, h1, h2⟩ := open_rowsE ht hc hpos hv hd
  exact ⟨rows, h1.slV, h2⟩
end Go.Proofs.Ev
