/- Loads and stores: what the abstract memory says of them holds of the world. -/
import Derived.Test.YtpiibdegmimckaaEv3
set_option linter.unusedVariables false
set_option linter.unusedSimpArgs false
namespace Go.Proofs.Ev
open Go Go.RowKit
variable {G : Code → Prop} {P : Program} {w0 : World} {ρ : Ren} {D : List Mk} {h : AH} {w : World}

theorem add_at (b o i : Nat) : (⟨b, o, none⟩ : Addr).add i = ⟨b, o + i, none⟩ := by unfold Addr.add; split <;> simp_all
theorem run_sz {t : TypeId} {n : Nat} (hs : szT P t = some n) (w : World) : (sizeOf t).run P w = .ok n w := by
  unfold szT at hs
  cases hi : P.info? t with
  | none => rw [hi] at hs; cases hs
  | some i =>
    rw [hi] at hs
    simp only [Option.map_some, Option.some.injEq] at hs
    simp [sizeOf, typeInfo, hi, hs]
theorem run_zero {t : TypeId} {z : Value} (hs : zeroT P t = some z) (w : World) : (zeroValue t).run P w = .ok z w := by
  unfold zeroT at hs
  cases hi : P.info? t with
  | none => rw [hi] at hs; cases hs
  | some i =>
    rw [hi] at hs
    simp only [Option.bind_some] at hs
    simp [zeroValue, typeInfo, hi, hs]
theorem run_bytesT {t : TypeId} {n : Nat} (hs : bytesT P t = some n) (w : World) : ∃ i, (typeInfo t).run P w = .ok i w ∧ i.bytes = n := by
  unfold bytesT at hs
  cases hi : P.info? t with
  | none => rw [hi] at hs; cases hs
  | some i =>
    rw [hi] at hs
    simp only [Option.map_some, Option.some.injEq] at hs
    exact ⟨i, by simp [typeInfo, hi], hs⟩
theorem run_und {t : TypeId} {d : TypeDesc} (hs : P.underlying t = some d) (w : World) : (underlying t).run P w = .ok d w := by simp [underlying, hs]
theorem run_isAggT {t : TypeId} {b : Bool} (hs : isAggT P t = some b) (w : World) : (isAgg t).run P w = .ok b w := by
  unfold isAggT at hs
  cases hi : P.underlying t with
  | none => rw [hi] at hs; cases hs
  | some d =>
    rw [hi] at hs
    cases d <;> simp_all [isAgg, underlying]

/-- Cells in a row, read. -/
theorem row_sim (S : Sim G P w0 ρ D h w) {b o n : Nat} {cs : List Value} {r0 : RB} (hr0 : ρ b = some r0) (hr : h.row b o n = some cs) :
    ∃ r, ρ b = some r ∧ ∃ cs' : List Value, LsR ρ cs cs' ∧ cs'.length = n ∧ ∀ (j : Nat) (v : Value), cs'[j]? = some v → w.cell? ⟨r.blk, r.base + o + j, none⟩ = some v := by
  unfold AH.row at hr
  split at hr
  · rename_i c e own hb
    split at hr
    · rename_i hle
      cases hr
      obtain ⟨r, hρ, hc⟩ := S.cells hr0 hb
      obtain ⟨c', e', fz, h1, h2, h3, h4⟩ := hc.heap
      have hn := hc.n
      have hle' := hc.le
      refine ⟨r, hρ, (c'.toList.drop (r.base + o)).take n, ?_, ?_, ?_⟩
      · have hl : AsR ρ ((c.drop o).take n).toArray ((c'.toList.drop (r.base + o)).take n).toArray := by
          refine ⟨by simp; omega, fun i v v' x y => ?_⟩
          simp only [List.getElem?_toArray, List.getElem?_take, List.getElem?_drop] at x y
          split at x
          · rename_i hin
            rw [if_pos hin] at y
            obtain ⟨u, hu1, hu2⟩ := h3 _ _ x
            have : c'.toList[r.base + o + i]? = some u := by
              rw [Array.getElem?_toList]
              rw [← hu1]
              congr 1
              omega
            rw [this] at y
            cases y
            exact hu2
          · cases x
        simpa using AsR.list.1 hl
      · simp; omega
      · intro j v hj
        rw [List.getElem?_take] at hj
        split at hj
        · rw [List.getElem?_drop, Array.getElem?_toList] at hj
          unfold World.cell?
          simp only [h1, Option.isSome_none, Bool.false_eq_true, if_false]
          rw [← hj]
        · cases hj
    · cases hr
  · cases hr
theorem cell_sim (S : Sim G P w0 ρ D h w) {b o : Nat} {v : Value} {r0 : RB} (hr0 : ρ b = some r0) (hr : h.cell b o = some v) :
    ∃ r, ρ b = some r ∧ ∃ v', VR ρ v v' ∧ w.cell? ⟨r.blk, r.base + o, none⟩ = some v' := by
  unfold AH.cell at hr
  split at hr
  · rename_i c e own hb
    obtain ⟨r, hρ, hc⟩ := S.cells hr0 hb
    obtain ⟨c', e', fz, h1, h2, h3, h4⟩ := hc.heap
    obtain ⟨v', a, b⟩ := h3 _ _ hr
    refine ⟨r, hρ, v', b, ?_⟩
    unfold World.cell?
    simp only [h1, Option.isSome_none, Bool.false_eq_true, if_false]
    exact a
  · cases hr
theorem loadCells_sim (S : Sim G P w0 ρ D h w) {b o n : Nat} {cs : List Value} {r0 : RB} (hr0 : ρ b = some r0) (hr : h.row b o n = some cs) :
    ∃ r, ρ b = some r ∧ ∃ cs' : List Value, LsR ρ cs cs' ∧ (loadCells ⟨r.blk, r.base + o, none⟩ n).run P w = .ok cs'.toArray w := by
  obtain ⟨r, hρ, cs', h1, h2, h3⟩ := row_sim S hr0 hr
  refine ⟨r, hρ, cs', h1, ?_⟩
  rw [← h2]
  exact run_loadCells_list (P := P) (w := w) ⟨r.blk, r.base + o, none⟩ cs' fun j v hj => by rw [add_at]; exact h3 j v hj
theorem load_sim (S : Sim G P w0 ρ D h w) {t : TypeId} {v v' x : Value} (hv : VR ρ v v') (hx : pLoad P t v h = some x) :
    ∃ x', (Instr.loadAt t v').run P w = .ok x' w ∧ VR ρ x x' := by
  unfold pLoad at hx
  split at hx
  · rename_i a
    cases hv with
    | ptr _ a' hr =>
      obtain ⟨hsp, r, hρ, rfl⟩ := hr
      split at hx
      · rename_i n ha hs
        cases hrow : h.row a.block a.off n with
        | none => rw [hrow] at hx; cases hx
        | some cs =>
          rw [hrow] at hx
          cases hx
          obtain ⟨r', hρ', cs', h1, h2⟩ := loadCells_sim S hρ hrow
          rw [hρ] at hρ'
          cases hρ'
          have hl := AsR.list.2 (show LsR ρ cs.toArray.toList cs'.toArray.toList by simpa using h1)
          refine ⟨.agg cs'.toArray, ?_, .agg _ _ hl.1 hl.2⟩
          simp [Instr.loadAt, Instr.sureAddr, loadVar, run_isAggT ha, run_sz hs, h2]
      · rename_i n ha hs
        obtain ⟨r', hρ', v', h1, h2⟩ := cell_sim S hρ hx
        rw [hρ] at hρ'
        cases hρ'
        refine ⟨v', ?_, h1⟩
        simp [Instr.loadAt, Instr.sureAddr, loadVar, run_isAggT ha, h2]
      · cases hx
  · cases hx

/-! ### Stores -/
theorem VR.oneCell {v v' : Value} (hv : VR ρ v v') (ho : oneCell v = true) : v'.oneCell' = true := by
  cases hv <;> simp_all [Ev.oneCell, Value.oneCell', Ev.skipped]
theorem set1_sim (S : Sim G P w0 ρ D h w) {b o : Nat} {c : List Value} {e : TypeId} {r : RB} {v v' : Value} (hb : h.get b = some (.cells c e true)) (hr : ρ b = some r) (ho : o < c.length) (hv : VR ρ v v') :
    Sim G P w0 ρ D (h.set b (.cells (c.set o v) e true)) (w.setCell ⟨r.blk, r.base + o, none⟩ v') ∧
    (∃ u, w.cell? ⟨r.blk, r.base + o, none⟩ = some u) ∧ w.frozen? ⟨r.blk, r.base + o, none⟩ = false := by
  obtain ⟨r', hρ, hc⟩ := S.cells hr hb
  rw [hr] at hρ
  cases hρ
  obtain ⟨c', e', fz, h1, h2, h3, h4⟩ := hc.heap
  have hn := hc.n
  have hle := hc.le
  have hge := (hc.mine rfl).1
  have hbd : r.base + o < c'.size := by omega
  have hheap : (w.setCell ⟨r.blk, r.base + o, none⟩ v').heap[r.blk]? = some (.cells (c'.setIfInBounds (r.base + o) v') e' fz) := by
    simp [World.setCell, Array.getElem?_modify, h1]
  have hother : ∀ k, k ≠ r.blk → (w.setCell ⟨r.blk, r.base + o, none⟩ v').heap[k]? = w.heap[k]? := fun k hk => Below.heap_setCell w ⟨r.blk, r.base + o, none⟩ v' k hk
  refine ⟨?_, ?_, ?_⟩
  · refine S.turn hb hr rfl rfl rfl (S.below.setCell (p := ⟨r.blk, r.base + o, none⟩) hge v') (by simp) hother ?_ ?_
    · intro j oj rj hji hj hmj hrj heq hobj
      rcases S.sep j b oj _ rj r hji hj hb hmj rfl hrj hr with k1 | ⟨k1, _, k2⟩
      · exact absurd heq k1
      · cases oj with
        | cells cj ej ownj =>
          obtain ⟨cj', ej', fzj, q1, q2, q3, q4⟩ := CellsR.heap hobj
          rw [heq, h1] at q1
          cases q1
          refine ⟨CellsR.n hobj, CellsR.le hobj, ⟨_, _, _, by rw [heq]; exact hheap, by simpa using q2, fun k x hx => ?_, by simpa using q4⟩, CellsR.mine hobj, CellsR.ext hobj⟩
          obtain ⟨x', y1, y2⟩ := q3 k x hx
          refine ⟨x', ?_, y2⟩
          have hk : k < cj.length := (List.getElem?_eq_some_iff.1 hx).1
          have hnj := CellsR.n hobj
          have hlj := CellsR.le hobj
          rw [Array.getElem?_setIfInBounds_ne (by omega)]
          exact y1
        | _ => simp [isC] at k1
    · refine ⟨by simpa using hn, hle, ⟨_, _, _, hheap, by simpa using h2, fun k x hx => ?_, by simpa using h4⟩, hc.mine, hc.ext⟩
      rw [List.getElem?_set] at hx
      by_cases hok : o = k
      · subst hok
        rw [if_pos rfl, if_pos ho] at hx
        cases hx
        exact ⟨v', by rw [Array.getElem?_setIfInBounds_self_of_lt hbd], hv⟩
      · rw [if_neg hok] at hx
        obtain ⟨x', y1, y2⟩ := h3 k x hx
        exact ⟨x', by rw [Array.getElem?_setIfInBounds_ne (by omega)]; exact y1, y2⟩
  · obtain ⟨u, hu, _⟩ := h3 o c[o] (by simp [ho])
    exact ⟨u, by unfold World.cell?; simp only [h1, Option.isSome_none, Bool.false_eq_true, if_false]; exact hu⟩
  · have := h4 rfl
    have : ¬ (fz.1 ≤ r.base + o ∧ r.base + o < fz.2) := by omega
    unfold World.frozen?
    simp only [h1]
    simpa using this
theorem put_cons {b o : Nat} {v : Value} {vs : List Value} {h2 : AH} (hp : h.put b o (v :: vs) = some h2) :
    ∃ c e, h.get b = some (.cells c e true) ∧ o < c.length ∧ (h.set b (.cells (c.set o v) e true)).put b (o + 1) vs = some h2 := by
  unfold AH.put at hp
  split at hp
  · rename_i c e hb
    split at hp
    · rename_i hle
      simp only [List.length_cons] at hle
      refine ⟨c, e, hb, by omega, ?_⟩
      cases hp
      unfold AH.put
      rw [AH.get_set_same h _ _ hb]
      simp only [List.length_set]
      rw [if_pos (by omega)]
      have hset : ∀ x y, (h.set b x).set b y = h.set b y := by
        intro x y
        have hlt := AH.get_lt hb
        unfold AH.set
        simp [hlt]
      rw [hset]
      congr 3
      unfold splice
      simp only [List.length_cons]
      refine List.ext_getElem? fun k => ?_
      have ho : o < c.length := by omega
      simp only [List.getElem?_append, List.length_append, List.length_take, List.length_cons, List.length_set, List.getElem?_take, List.getElem?_drop, List.getElem?_set]
      by_cases k1 : k < o
      · simp [k1, show k < o + 1 by omega, show min o c.length = o by omega, show min (o+1) c.length = o + 1 by omega, show ¬ o = k by omega, show k < o + 1 + vs.length by omega, show k < o + (vs.length + 1) by omega]
      · by_cases k2 : k = o
        · subst k2
          simp [show min k c.length = k by omega, show min (k+1) c.length = k + 1 by omega, ho, show k < k + 1 + vs.length by omega]
        · by_cases k3 : k < o + 1 + vs.length
          · simp [show min o c.length = o by omega, show min (o+1) c.length = o + 1 by omega, k1, show ¬ k < o + 1 by omega, k3, show k < o + (vs.length + 1) by omega]
            rw [show k - o = (k - (o + 1)) + 1 by omega]
            simp
          · simp [show min o c.length = o by omega, show min (o+1) c.length = o + 1 by omega, k1, show ¬ k < o + 1 by omega, k3, show ¬ k < o + (vs.length + 1) by omega]
            rw [if_neg (by omega)]
            congr 1
            omega
    · cases hp
  · cases hp
theorem put_nil {b o : Nat} {h2 : AH} (hp : h.put b o [] = some h2) : ∀ i, h2.get i = h.get i := by
  unfold AH.put at hp
  split at hp
  · rename_i c e hb
    split at hp
    · cases hp
      intro i
      by_cases hi : b = i
      · subst hi
        rw [AH.get_set_same h _ _ hb, hb]
        simp [splice]
      · rw [AH.get_set_other h _ hi]
    · cases hp
  · cases hp
theorem AH.put_n {b o : Nat} {vs : List Value} {h2 : AH} (hp : h.put b o vs = some h2) : h2.n = h.n := by
  unfold AH.put at hp
  split at hp
  · split at hp
    · cases hp; simp
    · cases hp
  · cases hp
/-- Memory that reads alike. -/
theorem Sim.alike (S : Sim G P w0 ρ D h w) {h2 : AH} (hn : h2.n = h.n) (hg : ∀ i, h2.get i = h.get i) : Sim G P w0 ρ D h2 w :=
  ⟨S.below, fun i r hr => by rw [hn]; exact S.dom i r hr, fun i o hi hd hl => S.obj i o (by rw [← hg]; exact hi) hd hl,
   fun i j oi oj ri rj hij hi hj => S.sep i j oi oj ri rj hij (by rw [← hg]; exact hi) (by rw [← hg]; exact hj), S.defs, S.nodup, fun b o hb => by rw [hg]; exact S.late b o hb⟩
theorem put_sim : ∀ (vs vs' : List Value) {b o : Nat} {r : RB} {h h2 : AH} {w : World} (S : Sim G P w0 ρ D h w) (hp : h.put b o vs = some h2) (hr : ρ b = some r) (hv : LsR ρ vs vs') (h1 : vs.all oneCell = true) (i : Nat) (base : Nat),
    r.base + o = base + i → ∃ w2, (storeCells ⟨r.blk, base, none⟩ vs' i).run P w = .ok () w2 ∧ Sim G P w0 ρ D h2 w2 := by
  intro vs
  induction vs with
  | nil =>
    intro vs' b o r h h2 w S hp hr hv h1 i base hb
    cases hv
    exact ⟨w, by simp [storeCells], S.alike (AH.put_n hp) (put_nil hp)⟩
  | cons v vs ih =>
    intro vs' b o r h h2 w S hp hr hv h1 i base hb
    cases hv with
    | cons hx hxs =>
      rename_i y ys
      simp only [List.all_cons, Bool.and_eq_true] at h1
      obtain ⟨c, e, hbk, ho, hp'⟩ := put_cons hp
      obtain ⟨S1, ⟨u, hu⟩, hf⟩ := set1_sim S hbk hr ho hx
      obtain ⟨w2, hw2, S2⟩ := ih ys S1 hp' hr hxs h1.2 (i + 1) base (by omega)
      refine ⟨w2, ?_, S2⟩
      simp only [storeCells, Sem.run_bind, add_at]
      rw [← hb, run_store P w _ y .plain (hx.oneCell h1.1)]
      simp only [hu, hf, Bool.false_eq_true, if_false, Result.andThen_ok]
      exact hw2
theorem store_sim (S : Sim G P w0 ρ D h w) {t : TypeId} {v v' x x' : Value} {h2 : AH} (hv : VR ρ v v') (hx : VR ρ x x') (hp : pStore P t v x h = some h2) :
    ∃ w2, (Instr.storeAt t v' x').run P w = .ok () w2 ∧ Sim G P w0 ρ D h2 w2 := by
  unfold pStore at hp
  split at hp
  · rename_i a
    split at hp
    · rename_i hcond
      simp only [Bool.and_eq_true, beq_iff_eq] at hcond
      have hk : kn x = true := by
        cases x <;> simp_all [kn, Value.cells, oneCell]
      have hcs := hx.cells hk
      cases hv with
      | ptr _ a' hr =>
        obtain ⟨hsp, r, hρ, rfl⟩ := hr
        obtain ⟨w2, hw2, S2⟩ := put_sim x.cells.toList x'.cells.toList S hp hρ (AsR.list.1 hcs) hcond.1 0 (r.base + a.off) (by omega)
        refine ⟨w2, ?_, S2⟩
        have hsz := run_sz hcond.2 w
        rw [hcs.1] at hsz
        simp [Instr.storeAt, Instr.sureAddr, storeVar, hsz, hw2]
    · cases hp
  · cases hp
end Go.Proofs.Ev
