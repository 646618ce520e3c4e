/- append, copy, clear, make; a text's bytes in new memory. -/
import Derived.Test.YtpiibdegmimckaaEv8
set_option linter.unusedVariables false
set_option linter.unusedSimpArgs false
namespace Go.Proofs.Ev
open Go Go.RowKit
variable {G : Code → Prop} {P : Program} {w0 : World} {ρ : Ren} {D : List Mk} {h : AH} {w : World}

theorem Sim.drew (S : Sim G P w0 ρ D h w) : Sim G P w0 ρ D h w.drew := S.drawn _
theorem freeze_new (W : World) (c : Array Value) (e : TypeId) : (W.alloc (.cells c e (0, 0))).freeze ⟨W.heap.size, c.size, none⟩ 1 = W.alloc (.cells c e (c.size, c.size + 1)) := by
  unfold World.freeze
  simp only [World.alloc, Nat.one_ne_zero, if_false]
  congr 1
  refine Array.ext_getElem? fun i => ?_
  rw [Array.getElem?_modify, Array.getElem?_push, Array.getElem?_push]
  by_cases hi : W.heap.size = i
  · subst hi; simp
  · rw [if_neg hi]
    split <;> simp_all
theorem bytes_sim (S : Sim G P w0 ρ D h w) {s d : TypeId} {x x' v : Value} {h2 : AH} (hx : VR ρ x x') (hv : pBytes P s d x h = some (v, h2)) : Does G P w0 ρ D w (convert s d x') v h2 := by
  unfold pBytes at hv
  split at hv
  · rename_i t e he
    cases hx
    split at hv
    · rename_i hs hu hz
      simp only [Option.some.injEq, Prod.mk.injEq] at hv
      obtain ⟨rfl, rfl⟩ := hv
      have hd := elem_of he
      have S1 := S.drew
      generalize hcap : Question.cut (.appendCap t.size 0 e) (w.tape w.drawn (.appendCap t.size 0 e)) = cap
      have hle : t.size ≤ cap := by rw [← hcap]; simp [Question.cut]
      let ba : UInt8 → Value := fun b => .int .u8 b.toNat
      have hsz : ((t.data.map ba) ++ Array.replicate (cap - t.size) (Value.int .u8 0)).size = cap := by simp; change t.size + _ = _; omega
      have N := new_sim (e := e) (e' := e) S1 (cs := t.data.toList.map ba) (c' := (t.data.map ba) ++ Array.replicate (cap - t.size) (Value.int .u8 0)) hz (by rw [hsz]; simpa using hle)
        (fun k v hk => ⟨v, by
          have hk' : k < t.data.size := by
            have := (List.getElem?_eq_some_iff.1 hk).1
            simpa using this
          rw [Array.getElem?_append_left (by simpa using hk')]
          simpa using hk, by
          simp only [List.getElem?_map, Option.map_eq_some_iff] at hk
          obtain ⟨b, _, rfl⟩ := hk
          exact .int _ _⟩) (cap, cap + 1) (.inr (by rw [hsz]; exact Nat.le_refl _))
      refine ⟨_, .slice (some ⟨w.heap.size, 0, none⟩) t.size cap, _, ?_, ext_le S1 _, new_slice ρ h.n w.heap.size _ rfl (.inr ⟨hle, Nat.one_pos, by rw [Nat.mul_one, List.length_map, Array.length_toList]; rfl, by rw [Nat.mul_one]; exact Nat.le_of_eq hsz.symm⟩), N⟩
      generalize hC : (t.data.map ba) ++ Array.replicate (cap - t.size) (Value.int .u8 0) = C at *
      have r1 : (choose (.appendCap t.size 0 e)).run P w = .ok cap w.drew := by
        simp only [run_choose, Question.forced, Bool.false_eq_true, if_false, hcap]; rfl
      have r2 : (newRow e C).run P w.drew = .ok ⟨w.heap.size, 0, none⟩ (w.drew.alloc (.cells C e (0, 0))) := rfl
      have hsh : (w.drew.alloc (.cells C e (0, 0))).shape? w.heap.size = some (e, C.size) := by
        unfold World.shape?
        have := push_new w.drew (.cells C e (0, 0))
        rw [World.size_drew] at this
        rw [this]
      have r3 : (markStringish ⟨w.heap.size, 0, none⟩).run P (w.drew.alloc (.cells C e (0, 0))) = .ok () (w.drew.alloc (.cells C e (cap, cap + 1))) := by
        unfold markStringish
        simp only [Sem.run_bind, run_shape, hsh, Result.andThen_ok, run_freeze]
        have := freeze_new w.drew C e
        rw [World.size_drew] at this
        rw [this, hsz]
      have hC' : t.data.map (fun b => (Value.int .u8 (b.toNat : Int))) ++ Array.replicate (cap - t.size) (Value.int .u8 0) = C := hC
      simp only [convert, Sem.run_bind, run_und hs, run_und hd, run_und hu, Result.andThen_ok, Conv.stringToBytes, r1, hC', r2, r3, Sem.run_pure]
    · cases hv
  · rename_i a n c e he
    split at hv
    · rename_i cs e' hu hb
      split at hv
      · rename_i hcond
        obtain ⟨rfl, hn0⟩ := hcond
        simp only [Option.some.injEq, Prod.mk.injEq] at hv
        obtain ⟨rfl, rfl⟩ := hv
        cases hx with
        | slice0 => exact absurd rfl hn0
        | slice _ a' _ _ c' r ha hr hcc =>
          obtain ⟨hsp, r2, hr2, rfl⟩ := ha
          rw [hr] at hr2
          cases hr2
          obtain ⟨r3, hr3, hc⟩ := S.cells hr hb
          rw [hr] at hr3
          cases hr3
          obtain ⟨c1, e1, fz, h1, h2, h3, h4⟩ := hc.heap
          have hd := elem_of he
          have hge := (hc.mine rfl).1
          have hsh : w.shape? r.blk = some (e1, c1.size) := by unfold World.shape?; rw [h1]
          have hm : (markStringish ⟨r.blk, r.base + a.off, none⟩).run P w = .ok () (w.freeze ⟨r.blk, c1.size, none⟩ 1) := by
            unfold markStringish
            simp only [Sem.run_bind, run_shape, hsh, Result.andThen_ok, run_freeze]
          obtain ⟨fz2, hf2, hf3⟩ : ∃ fz2, (w.freeze ⟨r.blk, c1.size, none⟩ 1).heap[r.blk]? = some (.cells c1 e1 fz2) ∧ (fz2.1 = fz2.2 ∨ c1.size ≤ fz2.1) := by
            obtain ⟨lo, hi⟩ := fz
            refine ⟨if lo == hi then (c1.size, c1.size + 1) else (min lo c1.size, max hi (c1.size + 1)), ?_, .inr ?_⟩
            · simp [World.freeze, Array.getElem?_modify, h1]
            · have := h4 rfl
              simp only at this
              split
              · exact Nat.le_refl _
              · rename_i hne
                have hne' : lo ≠ hi := by simpa using hne
                show c1.size ≤ min lo c1.size
                omega
          have hother : ∀ k, k ≠ r.blk → (w.freeze ⟨r.blk, c1.size, none⟩ 1).heap[k]? = w.heap[k]? := fun k hk => by
            simp only [World.freeze, Nat.one_ne_zero, if_false, Array.getElem?_modify]
            rw [if_neg (by omega)]
          have hsize : (w.freeze ⟨r.blk, c1.size, none⟩ 1).heap.size = w.heap.size := by simp [World.freeze]
          have S2 := S.turn (w1 := w.freeze ⟨r.blk, c1.size, none⟩ 1) (o1 := .cells cs e' true) hb hr rfl rfl rfl
            (S.below.trans ⟨rfl, rfl, rfl, by rw [hsize]; exact Nat.le_refl _, fun k hk => hother k (by omega)⟩) hsize hother
            (fun j oj rj hji hj hmj hrj heq hobj => by
              cases oj with
              | cells cj ej ownj =>
                obtain ⟨cj', ej', fzj, q1, q2, q3, q4⟩ := CellsR.heap hobj
                rw [heq, h1] at q1
                cases q1
                exact ⟨CellsR.n hobj, CellsR.le hobj, ⟨_, _, _, by rw [heq]; exact hf2, q2, q3, fun _ => hf3⟩, CellsR.mine hobj, CellsR.ext hobj⟩
              | map es clk => obtain ⟨_, es', k1, _⟩ := hobj; rw [heq, h1] at k1; cases k1
              | iter s p => have := hobj.2.2; rw [heq, h1] at this; cases this
              | loop st pd f ts ps as bd => obtain ⟨_, _, _, f', ts', d', k1, _⟩ := hobj; rw [heq, h1] at k1; cases k1
              | dead => simp [mine] at hmj)
            ⟨hc.n, hc.le, ⟨_, _, _, hf2, h2, h3, fun _ => hf3⟩, hc.mine, hc.ext⟩
          refine ⟨ρ, _, _, ?_, Ren.le_refl _, .slice a _ n c c' r ⟨hsp, r, hr, rfl⟩ hr hcc, S2⟩
          simp [convert, run_und hd, run_und hu, hm]
      · cases hv
    · cases hv
  · cases hv
theorem flat_get {l : List Value} : ∀ (c k : Nat), k < c * l.length → (List.replicate c l).flatten[k]? = l[k % l.length]? := by
  intro c
  induction c with
  | zero => intro k hk; omega
  | succ c ih =>
    intro k hk
    rw [List.replicate_succ, List.flatten_cons]
    by_cases h1 : k < l.length
    · rw [List.getElem?_append_left h1, Nat.mod_eq_of_lt h1]
    · rw [List.getElem?_append_right (by omega), ih (k - l.length) (by rw [Nat.add_mul] at hk; omega)]
      congr 1
      conv => rhs; rw [show k = (k - l.length) + l.length by omega, Nat.add_mod_right]
theorem zeros_sim {z : Value} {size c : Nat} (hz : z.cells.size = size) (hp : z.cells.toList.all plain0 = true) (zero : Array Value) (h0 : c * size ≠ 0 → zero = z.cells) :
    LsR ρ ((List.replicate c z.cells.toList).flatten) (((Array.range (c * size)).map (zero[· % zero.size]!)).toList) := by
  have hlen : ((List.replicate c z.cells.toList).flatten).length = c * size := by simp [hz]
  have hA : AsR ρ ((List.replicate c z.cells.toList).flatten).toArray ((Array.range (c * size)).map (zero[· % zero.size]!)) := by
    refine ⟨by simp [hz], fun i v v' h1 h2 => ?_⟩
    have hi : i < c * size := by
      have := (Array.getElem?_eq_some_iff.1 h2).1
      simpa using this
    have hzz := h0 (by omega)
    subst hzz
    simp only [List.getElem?_toArray] at h1
    rw [flat_get c i (by simpa [hz] using hi)] at h1
    simp only [Array.getElem?_map, Option.map_eq_some_iff] at h2
    obtain ⟨j, hj, rfl⟩ := h2
    have hj' : j = i := by
      have := (Array.getElem?_eq_some_iff.1 hj).2
      simp at this
      exact this.symm
    subst hj'
    have hne : z.cells.size ≠ 0 := by intro h9; rw [← hz, h9] at hi; omega
    have hlt : j % z.cells.size < z.cells.size := Nat.mod_lt _ (by omega)
    rw [getElem!_pos z.cells _ hlt]
    rw [Array.length_toList] at h1
    rw [Array.getElem?_toList, Array.getElem?_eq_getElem hlt] at h1
    cases h1
    exact VR.refl0 ρ (List.all_eq_true.1 hp _ (by simp))
  simpa using AsR.list.1 hA
theorem makeSlice_sim (S : Sim G P w0 ρ D h w) {t : TypeId} {l l' c c' v : Value} {h2 : AH} (hl : VR ρ l l') (hc : VR ρ c c') (hv : pMakeSlice P t l c h = some (v, h2)) : Does G P w0 ρ D w (Instr.makeSlice t l' c') v h2 := by
  unfold pMakeSlice at hv
  split at hv
  · rename_i e l c he
    cases hl
    cases hc
    split at hv
    · rename_i size bytes z hs hb hz
      split at hv
      · rename_i hcd
        obtain ⟨c0, c1, c2, c3, c4, c5⟩ := hcd
        cases hv
        have hu := elem_of he
        obtain ⟨info, hi, hib⟩ := run_bytesT hb w
        have wl : IntKind.i64.wrap l = l := IntWalk.i64_in _ (by omega)
        have wc : IntKind.i64.wrap c = c := IntWalk.i64_in _ (by omega)
        have hzr := zeros_sim (ρ := ρ) (c := c.toNat) c4 c5
        have hsz : ((List.replicate c.toNat z.cells.toList).flatten).length = c.toNat * size := by simp [c4]
        have N := fun zero h0 => new_AsR (e' := e) S hs (hzr zero h0)
        let zero : Array Value := if c.toNat * size = 0 then #[] else z.cells
        have hzero : c.toNat * size ≠ 0 → zero = z.cells := fun h0 => if_neg h0
        refine ⟨_, .slice (some ⟨w.heap.size, 0, none⟩) l.toNat c.toNat, _, ?_, ext_le S _, new_slice ρ h.n w.heap.size _ rfl (.inl rfl), N zero hzero⟩
        simp only [Instr.makeSlice, Sem.run_bind, run_und hu, Result.andThen_ok, asInt, asIntOf, Sem.run_pure, hi, wl, wc, hib]
        have k1 : (decide (c < 0) || decide ((bytes : Int) * c > 2 ^ 48)) = false := by simp; omega
        have k2 : ¬ ((decide (c < 0) || decide ((bytes : Int) * c > 2 ^ 48) || decide (l < 0) || decide (l > c)) = true) := by rw [k1]; simp; omega
        rw [if_neg k2]
        simp only [Sem.run_pure, Result.andThen_ok, run_askRoom, Sem.run_bind, run_sz hs]
        by_cases h0 : c.toNat * size = 0
        · rw [if_pos h0]
          simp only [Sem.run_pure, Result.andThen_ok, newRow, run_newObj, Sem.run_bind, zero, h0, if_true]
          rfl
        · rw [if_neg h0]
          simp only [Sem.run_pure, Result.andThen_ok, newRow, run_newObj, Sem.run_bind, run_zero hz, zero, h0, if_false]
          rfl
      · cases hv
    · cases hv
  · cases hv

/-! ### What is appended, copied -/
theorem firstCells_sim (S : Sim G P w0 ρ D h w) {size n : Nat} {x x' : Value} {cs : List Value} (hx : VR ρ x x') (hc : cellsOf P size n x h = some cs) :
    ∃ cs' : List Value, (Builtin.firstCells size n x').run P w = .ok cs'.toArray w ∧ LsR ρ cs cs' := by
  unfold cellsOf at hc
  split at hc
  · split at hc
    · cases hc; cases hx; exact ⟨[], by simp [Builtin.firstCells], .nil⟩
    · cases hc
  · rename_i a m c
    split at hc
    · rename_i h0
      cases hc
      refine ⟨[], ?_, .nil⟩
      cases hx <;> simp [Builtin.firstCells, h0, loadCells, loadCellsFrom]
    · rename_i h0
      cases hx with
      | slice0 =>
        split at hc
        · rename_i h1
          have : n = 0 := by omega
          subst this
          simp at h0
        · cases hc
      | slice _ a' _ _ c' r hr h1 h2 =>
        split at hc
        case isFalse => cases hc
        obtain ⟨_, r2, hρ2, rfl⟩ := hr
        obtain ⟨r', hρ', cs', k1, k2⟩ := loadCells_sim S hρ2 hc
        rw [hρ2] at hρ'
        cases hρ'
        exact ⟨cs', by simpa [Builtin.firstCells] using k2, k1⟩
  · rename_i s
    split at hc
    · cases hc
      cases hx
      refine ⟨_, by simp only [Builtin.firstCells, Sem.run_pure, Array.toArray_toList], LsR.refl0 ρ (List.all_eq_true.2 fun v hv => ?_)⟩
      simp only [Array.toList_map, List.mem_map] at hv
      obtain ⟨b, _, rfl⟩ := hv
      rfl
    · cases hc
  · cases hc

theorem lenOf_run {x x' : Value} {m : Nat} (hx : VR ρ x x') (hm : lenE x = some m) (w : World) : (Builtin.lenOf x').run P w = .ok m w := by
  unfold lenE at hm
  split at hm
  · cases hm; cases hx <;> rfl
  · cases hm; cases hx; rfl
  · cases hm
theorem grow_bound (need : Nat) : ∀ (k c : Nat), c ≤ need + need / 4 + 192 → Builtin.growBy need k c ≤ need + need / 4 + 192 := by
  intro k
  induction k with
  | zero => intro c hc; exact hc
  | succ k ih =>
    intro c hc
    unfold Builtin.growBy
    split
    · exact hc
    · exact ih _ (by omega)
theorem cap_bound {need old : Nat} (hlt : old < need) : Builtin.nextslicecap need old ≤ 2 * need + 192 := by
  unfold Builtin.nextslicecap
  split
  · omega
  · split
    · omega
    · have := grow_bound need 4 old (by omega)
      omega
theorem zeroCells_size (z : Array Value) (n : Nat) : (Builtin.zeroCells z n).size = n * z.size := by simp [Builtin.zeroCells]
theorem kill_n (h : AH) (b o : Nat) : (kill h b o).n = h.n := by unfold kill; split <;> (try split) <;> simp
theorem kill_sim (S : Sim G P w0 ρ D h w) (b o : Nat) : Sim G P w0 ρ D (kill h b o) w := by
  unfold kill
  split
  · split
    · exact S.giveUp _
    · exact S
  · exact S
theorem ext_congr {ρ : Ren} {n m : Nat} (hn : n = m) (r : RB) : ρ.ext n r = ρ.ext m r := by rw [hn]

/-- A block that was given up lives on, longer, under another number. -/
theorem Sim.regrow (S : Sim G P w0 ρ D h w) {i : Nat} {c : List Value} {e : TypeId} {r : RB} (hi : h.get i = some (.cells c e true)) (hr : ρ i = some r) {w1 : World} {c1 : Array Value} {e1 : TypeId} {fz : Nat × Nat} {c0 : Array Value}
    (hold : w.heap[r.blk]? = some (.cells c0 e1 fz)) (hnew : w1.heap[r.blk]? = some (.cells c1 e1 fz)) (hsz : w1.heap.size = w.heap.size) (hcs : c1.size = c0.size) (hb : Below w0.heap.size w0 w1)
    (hother : ∀ k, k ≠ r.blk → w1.heap[k]? = w.heap[k]?) (hout : ∀ k, (k < r.base ∨ r.base + r.cap ≤ k) → c1[k]? = c0[k]?)
    {off : Nat} {cs : List Value} {sz : Nat} {el : TypeId} (hoff : off + cs.length ≤ r.cap) (hel : szT P el = some sz)
    (hv : ∀ (k : Nat) (v : Value), cs[k]? = some v → ∃ v', c1[r.base + off + k]? = some v' ∧ VR ρ v v') :
    Sim G P w0 (ρ.ext h.n ⟨r.blk, r.base + off, cs.length, r.cap - off, sz⟩) D ((h.set i .dead).alloc (.cells cs el true)) w1 := by
  have S0 := S.giveUp i
  obtain ⟨r', hr', hc⟩ := S.cells hr hi
  rw [hr] at hr'
  cases hr'
  obtain ⟨c0', e0', fz0, q1, q2, q3, q4⟩ := hc.heap
  rw [hold] at q1
  cases q1
  have hge := (hc.mine rfl).1
  have hle : ρ.le (ρ.ext h.n ⟨r.blk, r.base + off, cs.length, r.cap - off, sz⟩) := ext_le S _
  have hn : (h.set i .dead).n = h.n := by simp
  have gnew : ∀ j oj, ((h.set i .dead).alloc (.cells cs el true)).get j = some oj → (j = h.n ∧ oj = .cells cs el true) ∨ (j < h.n ∧ (h.set i .dead).get j = some oj) := by
    intro j oj hj
    by_cases hjn : j = h.n
    · subst hjn
      have := AH.get_alloc_new (h.set i .dead) (.cells cs el true)
      rw [hn] at this
      rw [this] at hj
      cases hj
      exact .inl ⟨rfl, rfl⟩
    · have hlt : j < h.n := by have := AH.get_lt hj; simp at this; omega
      rw [AH.get_alloc_old _ _ (by rw [hn]; exact hlt)] at hj
      exact .inr ⟨hlt, hj⟩
  have apart : ∀ j oj rj, (h.set i .dead).get j = some oj → mine oj = true → ρ j = some rj → rj.blk = r.blk → isC oj = true ∧ (rj.base + rj.cap ≤ r.base ∨ r.base + r.cap ≤ rj.base) := by
    intro j oj rj hj hm hrj heq
    have hji : j ≠ i := by
      rintro rfl
      rw [AH.get_set_same h _ _ hi] at hj
      cases hj
      simp [mine] at hm
    rw [AH.get_set_other h _ (Ne.symm hji)] at hj
    rcases S.sep j i oj _ rj r hji hj hi hm rfl hrj hr with k1 | ⟨k1, _, k2⟩
    · exact absurd heq k1
    · exact ⟨k1, k2⟩
  refine ⟨hb, fun j q hq => ?_, fun j oj hj hd hl => ?_, fun a b oa ob ra rb hab ha hb' ma mb hra hrb => ?_, fun d hd => ?_, S.nodup, fun b ob hb => ?_⟩
  · by_cases hjn : j = h.n
    · subst hjn
      rw [ext_new] at hq
      cases hq
      have := (S.dom _ _ hr).2
      simp
      omega
    · rw [ext_old ρ _ hjn] at hq
      have := S.dom j q hq
      simp
      omega
  · rcases gnew j oj hj with ⟨rfl, rfl⟩ | ⟨hlt, hj'⟩
    · refine ⟨_, ext_new _ _ _, rfl, by dsimp only; omega, ⟨c1, e1, fz, hnew, by dsimp only; omega, fun k v hk => ?_, fun _ => by rw [hcs]; exact q4 rfl⟩, fun _ => ⟨hge, hel⟩, fun hf => by cases hf⟩
      obtain ⟨v', a, b⟩ := hv k v hk
      exact ⟨v', a, b.mono hle⟩
    · obtain ⟨q, hq, hobj⟩ := S0.obj j oj hj' hd hl
      refine ⟨q, hle _ _ hq, ?_⟩
      by_cases hqr : q.blk = r.blk
      · by_cases hmj : mine oj = true
        · obtain ⟨k1, k2⟩ := apart j oj q hj' hmj hq hqr
          cases oj with
          | cells cj ej ownj =>
            obtain ⟨cj', ej', fzj, p1, p2, p3, p4⟩ := CellsR.heap hobj
            rw [hqr, hold] at p1
            cases p1
            have hnj := CellsR.n hobj
            have hlj := CellsR.le hobj
            refine ⟨hnj, hlj, ⟨c1, _, _, by rw [hqr]; exact hnew, by omega, fun k x hx => ?_, fun ho => by rw [hcs]; exact p4 ho⟩, CellsR.mine hobj, CellsR.ext hobj⟩
            obtain ⟨x', y1, y2⟩ := p3 k x hx
            have hk : k < cj.length := (List.getElem?_eq_some_iff.1 hx).1
            exact ⟨x', by rw [hout _ (by omega)]; exact y1, y2.mono hle⟩
          | _ => simp [isC] at k1
        · cases oj with
          | cells cj ej ownj =>
            have : ownj = false := by simpa [mine] using hmj
            have := (CellsR.ext hobj this).1
            omega
          | dead => exact absurd rfl hd
          | _ => simp [mine] at hmj
      · exact hobj.same hle (hother _ hqr)
  · have key : ∀ j oj rj, (h.set i .dead).get j = some oj → mine oj = true → ρ.ext h.n ⟨r.blk, r.base + off, cs.length, r.cap - off, sz⟩ j = some rj → j ≠ h.n →
        rj.blk ≠ r.blk ∨ (isC oj = true ∧ (rj.base + rj.cap ≤ r.base ∨ r.base + r.cap ≤ rj.base)) := by
      intro j oj rj hj hm hrj hne
      rw [ext_old ρ _ hne] at hrj
      by_cases heq : rj.blk = r.blk
      · exact .inr (apart j oj rj hj hm hrj heq)
      · exact .inl heq
    rcases gnew a oa ha with ⟨rfl, rfl⟩ | ⟨hla, ha'⟩
    · rcases gnew b ob hb' with ⟨rfl, rfl⟩ | ⟨hlb, hb''⟩
      · exact absurd rfl hab
      · rw [ext_new] at hra
        cases hra
        rcases key b ob rb hb'' mb hrb (Ne.symm hab) with k1 | ⟨k1, k2⟩
        · exact .inl (Ne.symm k1)
        · refine .inr ⟨rfl, k1, ?_⟩
          dsimp only
          omega
    · rcases gnew b ob hb' with ⟨rfl, rfl⟩ | ⟨hlb, hb''⟩
      · rw [ext_new] at hrb
        cases hrb
        rcases key a oa ra ha' ma hra hab with k1 | ⟨k1, k2⟩
        · exact .inl k1
        · refine .inr ⟨k1, rfl, ?_⟩
          dsimp only
          omega
      · rw [ext_old ρ _ (by omega)] at hra hrb
        exact S0.sep a b oa ob ra rb hab ha' hb'' ma mb hra hrb
  · obtain ⟨h1, h2⟩ := S.defs d hd
    refine ⟨h1, ?_⟩
    have : d ≠ r.blk := by
      rintro rfl
      rw [h2] at hold
      cases hold
    rw [hother _ this]; exact h2
  · have hlt := S0.lateLt hb
    rw [hn] at hlt
    rw [ext_old ρ _ (by omega), AH.get_alloc_old _ _ (by rw [hn]; exact hlt)]
    exact S0.late b ob hb
/-- Stores in a row, on the concrete side alone. -/
theorem stores_run : ∀ (vs : List Value) (blk o i : Nat) (w : World) (c : Array Value) (e : TypeId) (fz : Nat × Nat), w.heap[blk]? = some (.cells c e fz) → o + i + vs.length ≤ c.size →
    (∀ k, k < vs.length → ¬ (fz.1 ≤ o + i + k ∧ o + i + k < fz.2)) → (∀ v ∈ vs, v.oneCell' = true) →
    ∃ w1 c1, (storeCells ⟨blk, o, none⟩ vs i).run P w = .ok () w1 ∧ w1.heap[blk]? = some (.cells c1 e fz) ∧ c1.size = c.size ∧ w1.heap.size = w.heap.size ∧ w1.os = w.os ∧ w1.tape = w.tape ∧ w1.output = w.output ∧
      (∀ k, k ≠ blk → w1.heap[k]? = w.heap[k]?) ∧ (∀ k, (k < o + i ∨ o + i + vs.length ≤ k) → c1[k]? = c[k]?) ∧ (∀ (k : Nat) (v : Value), vs[k]? = some v → c1[o + i + k]? = some v) := by
  intro vs
  induction vs with
  | nil =>
    intro blk o i w c e fz hc _ _ _
    exact ⟨w, c, by simp [storeCells], hc, rfl, rfl, rfl, rfl, rfl, fun _ _ => rfl, fun _ _ => rfl, fun k v hk => by simp at hk⟩
  | cons v vs ih =>
    intro blk o i w c e fz hc hle hf h1
    simp only [List.length_cons] at hle hf
    have hcell : w.cell? ⟨blk, o + i, none⟩ = some c[o + i] := by
      unfold World.cell?
      simp only [hc, Option.isSome_none, Bool.false_eq_true, if_false]
      rw [Array.getElem?_eq_getElem (by omega)]
    have hfr : w.frozen? ⟨blk, o + i, none⟩ = false := by
      unfold World.frozen?
      simp only [hc]
      have := hf 0 (by omega)
      simpa using this
    have hc' : (w.setCell ⟨blk, o + i, none⟩ v).heap[blk]? = some (.cells (c.setIfInBounds (o + i) v) e fz) := by
      simp [World.setCell, Array.getElem?_modify, hc]
    obtain ⟨w1, c1, k1, k2, k3, k4, k5, k6, k7, k8, k9, k10⟩ := ih blk o (i + 1) (w.setCell ⟨blk, o + i, none⟩ v) _ e fz hc' (by simp; omega) (fun k hk => by have := hf (k + 1) (by omega); omega) (fun x hx => h1 x (by simp [hx]))
    refine ⟨w1, c1, ?_, k2, by simpa using k3, by simpa using k4, k5, k6, k7, fun k hk => ?_, fun k hk => ?_, fun k x hx => ?_⟩
    · simp only [storeCells, Sem.run_bind, add_at]
      rw [run_store P w _ v .plain (h1 v (by simp))]
      simp only [hcell, hfr, Bool.false_eq_true, if_false, Result.andThen_ok]
      exact k1
    · rw [k8 k hk, Below.heap_setCell w ⟨blk, o + i, none⟩ v k hk]
    · simp only [List.length_cons] at hk
      rw [k9 k (by omega), Array.getElem?_setIfInBounds_ne (by omega)]
    · cases k with
      | zero =>
        simp at hx
        subst hx
        rw [k9 _ (by omega)]
        simp only [Nat.add_zero]
        rw [Array.getElem?_setIfInBounds_self_of_lt (by omega)]
      | succ k =>
        have := k10 k x (by simpa using hx)
        rw [← this]
        congr 1
        omega
end Go.Proofs.Ev
