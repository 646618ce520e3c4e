/- The operations that make memory or write it: new objects, maps, texts' bytes. -/
import Derived.Test.YtpiibdegmimckaaEv7
import Derived.IntWalk
set_option linter.unusedVariables false
set_option linter.unusedSimpArgs false
namespace Go.Proofs.Ev
open Go Go.RowKit
variable {G : Code → Prop} {P : Program} {w0 : World} {ρ : Ren} {D : List Mk} {h : AH} {w : World}

theorem ba_eq {a b : ByteArray} (hb : (a == b) = true) : a = b := by
  rw [beq_toListBytes] at hb
  have h1 : a.toList = b.toList := by simpa using hb
  rw [ByteArray.toList_eq, ByteArray.toList_eq] at h1
  cases a; cases b
  exact congrArg ByteArray.mk (Array.toList_inj.1 h1)
theorem ba_self (a : ByteArray) : (a == a) = true := by rw [beq_toListBytes]; simp
theorem new_sim (S : Sim G P w0 ρ D h w) {cs : List Value} {c' : Array Value} {e e' : TypeId} {sz : Nat} (hs : szT P e = some sz) (hle : cs.length ≤ c'.size)
    (hv : ∀ (k : Nat) (v : Value), cs[k]? = some v → ∃ v', c'[k]? = some v' ∧ VR ρ v v') (fz : Nat × Nat) (hfz : fz.1 = fz.2 ∨ c'.size ≤ fz.1) :
    Sim G P w0 (ρ.ext h.n ⟨w.heap.size, 0, cs.length, c'.size, sz⟩) D (h.alloc (.cells cs e true)) (w.alloc (.cells c' e' fz)) := by
  refine S.alloc _ _ _ rfl ⟨rfl, hle, ⟨c', e', fz, push_new w _, by simp, fun k v hk => ?_, fun _ => hfz⟩, fun _ => ⟨S.lt, hs⟩, fun hf => by cases hf⟩
  · obtain ⟨v', h1, h2⟩ := hv k v hk
    exact ⟨v', by simpa using h1, h2.mono (ext_le S _)⟩
theorem new_AsR (S : Sim G P w0 ρ D h w) {cs : List Value} {c' : Array Value} {e e' : TypeId} {sz : Nat} (hs : szT P e = some sz) (hv : LsR ρ cs c'.toList) :
    Sim G P w0 (ρ.ext h.n ⟨w.heap.size, 0, cs.length, c'.size, sz⟩) D (h.alloc (.cells cs e true)) (w.alloc (.cells c' e' (0, 0))) := by
  have hl := hv.length
  refine new_sim S hs (by simp at hl; omega) (fun k v hk => ?_) (0, 0) (.inl rfl)
  obtain ⟨v', h1, h2⟩ := hv.get hk
  exact ⟨v', by simpa using h1, h2⟩
theorem new_ptr (S : Sim G P w0 ρ D h w) (r : RB) (hb : r.base = 0) (hr : r.blk = w.heap.size) : VR (ρ.ext h.n r) (.pointer (some ⟨h.n, 0, none⟩)) (.pointer (some ⟨w.heap.size, 0, none⟩)) :=
  .ptr _ _ ⟨rfl, r, ext_new _ _ _, by simp [hb, hr]⟩
/-- What an operation comes to. -/
def Does (G : Code → Prop) (P : Program) (w0 : World) (ρ : Ren) (D : List Mk) (w : World) (s : Sem Value) (v : Value) (h2 : AH) : Prop :=
  ∃ ρ' v' w', s.run P w = .ok v' w' ∧ ρ.le ρ' ∧ VR ρ' v v' ∧ Sim G P w0 ρ' D h2 w'

/-- What an operation that makes a new row of cells comes to, whatever memory there is. -/
def Fresh (P : Program) (ρ : Ren) (w : World) (h : AH) (s : Sem Value) (v : Value) (h2 : AH) : Prop :=
  ∃ (cs : List Value) (e : TypeId) (sz : Nat) (c' : Array Value) (e' : TypeId) (v' : Value), h2 = h.alloc (.cells cs e true) ∧ szT P e = some sz ∧ LsR ρ cs c'.toList ∧
    s.run P w = .ok v' (w.alloc (.cells c' e' (0, 0))) ∧ VR (ρ.ext h.n ⟨w.heap.size, 0, cs.length, c'.size, sz⟩) v v'
theorem new_ptr0 (ρ : Ren) (n : Nat) (r : RB) (hb : r.base = 0) : VR (ρ.ext n r) (.pointer (some ⟨n, 0, none⟩)) (.pointer (some ⟨r.blk, 0, none⟩)) :=
  .ptr _ _ ⟨rfl, r, ext_new _ _ _, by simp [hb]⟩
theorem Fresh.does (S : Sim G P w0 ρ D h w) {s : Sem Value} {v : Value} {h2 : AH} (F : Fresh P ρ w h s v h2) : Does G P w0 ρ D w s v h2 := by
  obtain ⟨cs, e, sz, c', e', v', rfl, h3, h4, h5, h6⟩ := F
  exact ⟨_, v', _, h5, ext_le S _, h6, new_AsR S h3 h4⟩
/-- Made late: the evaluator has had it for long. -/
theorem Fresh.settle {hp : AH} {D2 : List Mk} (S : Sim G P w0 ρ D hp w) {s : Sem Value} {v : Value} {h2 : AH} {ob : AO} (F : Fresh P ρ w h s v h2) (hob : h2 = h.alloc ob) (hb : Mk.late h.n ob ∈ D)
    (hD : ∀ x ∈ D2, x ∈ D) (hD' : ∀ x ∈ D, x ∈ D2 ∨ ∃ o', x = Mk.late h.n o') (hnd : (D2.map Mk.key).Nodup) (hl : ¬ Late D2 h.n) : Does G P w0 ρ D2 w s v hp := by
  obtain ⟨cs, e, sz, c', e', v', h1, h3, h4, h5, h6⟩ := F
  have hobe : ob = .cells cs e true := by
    have := AH.get_alloc_new h ob
    rw [← hob, h1, AH.get_alloc_new] at this
    simpa using this.symm
  subst hobe
  have hlen := h4.length
  have hle : ρ.le (ρ.ext h.n ⟨w.heap.size, 0, cs.length, c'.size, sz⟩) := fun i x hx => by
    have : i ≠ h.n := by rintro rfl; rw [(S.late _ _ hb).1] at hx; cases hx
    rw [ext_old ρ _ this]; exact hx
  obtain ⟨k1, k2⟩ := S.settle hb hD hD' hnd hl (.cells c' e' (0, 0)) ⟨w.heap.size, 0, cs.length, c'.size, sz⟩ rfl
    ⟨rfl, by simp at hlen; dsimp only; omega, ⟨c', e', (0, 0), push_new w _, by simp, fun k x hk => by
      obtain ⟨x', q1, q2⟩ := h4.get hk
      exact ⟨x', by simpa using q1, q2.mono hle⟩, fun _ => .inl rfl⟩, fun _ => ⟨S.lt, h3⟩, fun hf => by cases hf⟩
  exact ⟨_, v', _, h5, k1, h6, k2⟩
theorem alloc_fresh {t : TypeId} {v : Value} {h2 : AH} (hv : pAlloc P t h = some (v, h2)) : Fresh P ρ w h (Instr.alloc t true (.tuple #[])) v h2 := by
  unfold pAlloc newCells at hv
  cases hzt : zeroT P t with
  | none => rw [hzt] at hv; cases hv
  | some z =>
    rw [hzt] at hv
    simp only at hv
    split at hv
    case isFalse => cases hv
    rename_i hzp
    cases hv
    have hsz : ∃ sz, szT P t = some sz := by
      unfold zeroT at hzt
      unfold szT
      cases hi : P.info? t with
      | none => rw [hi] at hzt; cases hzt
      | some i => exact ⟨_, rfl⟩
    obtain ⟨sz, hsz⟩ := hsz
    refine ⟨_, _, sz, z.cells, t, .pointer (some ⟨w.heap.size, 0, none⟩), rfl, hsz, AsR.list.1 (zero_refl hzp), ?_, new_ptr0 _ _ _ rfl⟩
    simp [Instr.alloc, run_zero hzt, newVar, newRow]
theorem alloc_sim (S : Sim G P w0 ρ D h w) {t : TypeId} {v : Value} {h2 : AH} (hv : pAlloc P t h = some (v, h2)) : Does G P w0 ρ D w (Instr.alloc t true (.tuple #[])) v h2 := (alloc_fresh hv).does S
theorem box_fresh {t : TypeId} {x x' v : Value} {h2 : AH} (hx : VR ρ x x') (hv : pBox P t x h = some (v, h2)) : Fresh P ρ w h (Instr.box t x') v h2 := by
  unfold pBox newCells at hv
  split at hv
  · rename_i hc
    simp only [Bool.and_eq_true] at hc
    cases hv
    obtain ⟨sz, hsz⟩ := Option.isSome_iff_exists.1 hc.2
    exact ⟨_, _, sz, x'.cells, t, .pointer (some ⟨w.heap.size, 0, none⟩), rfl, hsz, AsR.list.1 (hx.cells hc.1), by simp [Instr.box, newVar, newRow], new_ptr0 _ _ _ rfl⟩
  · cases hv
theorem box_sim (S : Sim G P w0 ρ D h w) {t : TypeId} {x x' v : Value} {h2 : AH} (hx : VR ρ x x') (hv : pBox P t x h = some (v, h2)) : Does G P w0 ρ D w (Instr.box t x') v h2 := (box_fresh hx hv).does S
theorem new_slice (ρ : Ren) (n m : Nat) (r : RB) (hb : r.base = 0) {l c c' : Nat} (hc : c' = c ∨ (c ≤ c' ∧ 0 < r.sz ∧ c * r.sz = r.n ∧ c' * r.sz ≤ r.cap)) :
    VR (ρ.ext n r) (.slice (some ⟨n, 0, none⟩) l c) (.slice (some ⟨r.blk, 0, none⟩) l c') :=
  .slice _ _ _ _ _ r ⟨rfl, r, ext_new _ _ _, by simp [hb]⟩ (ext_new _ _ _) (by simpa using hc)
theorem elem_of {t e : TypeId} (he : elemT P t = some e) : P.underlying t = some (.slice e) := by
  unfold elemT at he
  split at he
  · cases he; assumption
  · cases he
theorem buildSlice_fresh {t : TypeId} {n : Nat} {ps ps' : Array (Nat × Value)} {v : Value} {h2 : AH} (hps : PsR ρ ps.toList ps'.toList) (hv : pBuildSlice P t n ps h = some (v, h2)) :
    Fresh P ρ w h (Instr.buildSlice t n ps') v h2 := by
  unfold pBuildSlice at hv
  split at hv
  · cases hv
  · rename_i e he
    split at hv
    · rename_i size zero hs hz
      split at hv
      · cases hv
      · rename_i hc
        simp only [Bool.or_eq_true, decide_eq_true_eq, Bool.not_eq_true', not_or, Bool.not_eq_false, Nat.not_lt, gt_iff_lt] at hc
        obtain ⟨⟨hc1, hc2⟩, hc3⟩ := hc
        split at hv
        · rename_i cells hf
          cases hv
          have hbase : AsR ρ ((Array.range (n * size)).map (zero[· % zero.size]!)) ((Array.range (n * size)).map (zero[· % zero.size]!)) := by
            refine ⟨rfl, fun i a b ha hb => ?_⟩
            rw [ha] at hb
            cases hb
            simp only [Array.getElem?_map, Option.map_eq_some_iff] at ha
            obtain ⟨j, hj, rfl⟩ := ha
            have hsz : j < n * size := by
              have := (Array.getElem?_eq_some_iff.1 hj).2
              have h3 := (Array.getElem?_eq_some_iff.1 hj).1
              simp at this h3
              omega
            have hne : ¬ n * size = 0 := by omega
            rw [hs] at hz
            simp only [Option.getD_some, hne, if_false] at hz
            cases hzt : zeroT P e with
            | none => rw [hzt] at hz; cases hz
            | some z =>
              rw [hzt] at hz
              simp only [Option.map_some, Option.some.injEq] at hz
              by_cases h0 : zero.size = 0
              · have : zero = #[] := Array.eq_empty_of_size_eq_zero h0
                subst this
                simp
                exact VR.refl0 ρ (by decide)
              · have hlt : j % zero.size < zero.size := Nat.mod_lt _ (by omega)
                rw [getElem!_pos zero _ hlt]
                exact VR.refl0 ρ (List.all_eq_true.1 hc3 _ (by simp))
          obtain ⟨b', h1, h2⟩ := fill_sim _ hps hc2 hbase hf
          refine ⟨_, _, size, b', e, .slice (some ⟨w.heap.size, 0, none⟩) n n, rfl, hs, AsR.list.1 h2, ?_, new_slice ρ h.n w.heap.size _ rfl (.inl rfl)⟩
          have hu := elem_of he
          rw [hs] at hz
          simp only [Option.getD_some] at hz
          by_cases h0 : n * size = 0
          · rw [if_pos h0] at hz
            cases hz
            simp only [Instr.buildSlice, Sem.run_bind, run_und hu, Result.andThen_ok, run_sz hs]
            rw [if_neg (by omega), if_pos h0]
            simp [h1, newRow, h0]
            simp [h0] at h1
            simp [h1]
          · rw [if_neg h0] at hz
            cases hzt : zeroT P e with
            | none => rw [hzt] at hz; cases hz
            | some z =>
              rw [hzt] at hz
              simp only [Option.map_some, Option.some.injEq] at hz
              subst hz
              simp only [Instr.buildSlice, Sem.run_bind, run_und hu, Result.andThen_ok, run_sz hs]
              rw [if_neg (by omega), if_neg h0]
              simp [run_zero hzt, h1, newRow]
        · cases hv
    · cases hv
theorem buildSlice_sim (S : Sim G P w0 ρ D h w) {t : TypeId} {n : Nat} {ps ps' : Array (Nat × Value)} {v : Value} {h2 : AH} (hps : PsR ρ ps.toList ps'.toList) (hv : pBuildSlice P t n ps h = some (v, h2)) :
    Does G P w0 ρ D w (Instr.buildSlice t n ps') v h2 := (buildSlice_fresh hps hv).does S
theorem makeMap_sim (S : Sim G P w0 ρ D h w) {t : TypeId} {r r' : Option Value} {v : Value} {h2 : AH} (hr : OR ρ r r') (hv : pMakeMap P t r h = some (v, h2)) : Does G P w0 ρ D w (Instr.makeMap t r') v h2 := by
  have key : ∀ kt et, mapT P t = some (kt, et) → (r' = none ∨ ∃ k n, r' = some (.int k n)) → (Instr.makeMap t r').run P w = .ok (.map (some w.heap.size)) (w.alloc (.map #[] 0)) := by
    intro kt et hm hr'
    have hu := map_of hm
    rcases hr' with rfl | ⟨k, n, rfl⟩
    · simp [Instr.makeMap]
    · simp [Instr.makeMap, run_und hu, asInt, asIntOf]
  have fin : Does G P w0 ρ D w (Instr.makeMap t r') (.map (some h.n)) (h.alloc (.map [] 0)) ∨ ¬ (Instr.makeMap t r').run P w = .ok (.map (some w.heap.size)) (w.alloc (.map #[] 0)) := by
    by_cases hrun : (Instr.makeMap t r').run P w = .ok (.map (some w.heap.size)) (w.alloc (.map #[] 0))
    · refine .inl ⟨_, _, _, hrun, ext_le S ⟨w.heap.size, 0, 0, 0, 0⟩, .map _ ⟨w.heap.size, 0, 0, 0, 0⟩ (ext_new _ _ _), S.alloc _ _ _ rfl ⟨S.lt, #[], push_new w _, .nil⟩⟩
    · exact .inr hrun
  unfold pMakeMap at hv
  split at hv
  · rename_i q hm
    cases hv
    cases hr
    exact fin.resolve_right fun hn => hn (key _ _ hm (.inl rfl))
  · rename_i q k n hm
    cases hv
    cases hr with
    | some hi => cases hi; exact fin.resolve_right fun hn => hn (key _ _ hm (.inr ⟨_, _, rfl⟩))
  · cases hv
theorem update_sim (S : Sim G P w0 ρ D h w) {t : TypeId} {m m' k k' x x' : Value} {h2 : AH} (hm : VR ρ m m') (hk : VR ρ k k') (hx : VR ρ x x') (hv : pUpdate P t m k x h = some h2) :
    ∃ w', (Instr.mapUpdate t m' k' x').run P w = .ok () w' ∧ Sim G P w0 ρ D h2 w' := by
  unfold pUpdate at hv
  split at hv
  · rename_i kt et r hmt
    have hmu := map_of hmt
    split at hv
    · rename_i kd es clk hkd hg
      split at hv
      · rename_i hc
        simp only [Bool.and_eq_true] at hc
        have ek := hk.eq0 (key_plain hc.1)
        subst ek
        cases hm with
        | map _ rb hρ =>
          obtain ⟨rb', hρ', hob⟩ := S.objAt hρ hg (by simp)
          rw [hρ] at hρ'
          cases hρ'
          obtain ⟨hge, es', k1, k2⟩ := hob
          have hget : (getObj rb.blk).run P w = .ok (.map es' clk) w := by simp [getObj, Sem.run, k1]
          have hset : ∀ o, (setObj rb.blk o).run P w = .ok () { w with heap := w.heap.setIfInBounds rb.blk o } := fun o => by simp [setObj, Sem.run, k1]
          have hlt : rb.blk < w.heap.size := (S.dom _ _ hρ).2
          have newobj : ∀ o, ({ w with heap := w.heap.setIfInBounds rb.blk o } : World).heap[rb.blk]? = some o := fun o => by
            show (w.heap.setIfInBounds rb.blk o)[rb.blk]? = some o
            rw [Array.getElem?_setIfInBounds_self_of_lt hlt]
          split at hv
          · rename_i i a hf
            cases hv
            obtain ⟨r', h1, h2⟩ := find_sim k2 hf
            rcases h2 with ⟨h3, _⟩ | ⟨j, u, u', e', q1, q2, q3, q4, q5, q6⟩
            · cases h3
            · cases q1
              subst q2
              have hfk : (Instr.findKey kt k es'.toList).run P w = .ok (some (i, u')) w := by simp [Instr.findKey, run_und hkd, h1]
              have hkey : e'.key = k := by
                have := sameNow_key q6
                unfold Instr.sameNow at q6
                unfold keyOk at hc
                split at q6
                · simp_all
                · simp only [Option.some.injEq] at q6; have := ba_eq q6; subst this; assumption
                · simp_all
                · cases q6
              have hold : (es'[i]?).map (·.key) = some k := by
                have : es'[i]? = some e' := by simpa using q5
                rw [this]; simp [hkey]
              have hstay : (Instr.keyThatStays k k).run P w = .ok k w := by
                unfold Instr.keyThatStays
                have : Instr.sameBits 10000 k k = true := by
                  have h9 : ∀ n, Instr.sameBits (n + 1) k k = true := by
                    intro n
                    have := hc.1
                    unfold keyOk at this
                    split at this <;> first | (cases this; done) | simp [Instr.sameBits, ba_self]
                  exact h9 9999
                rw [if_pos this]
                rfl
              refine ⟨_, ?_, S.setObj (o1 := .map (es.modify i fun e => { e with key := k, val := x }) clk) (x := .map (es'.modify i fun e => { e with key := k, val := x' }) clk) hg hρ rfl rfl rfl rfl ⟨hge, _, newobj _, ?_⟩⟩
              · simp [Instr.mapUpdate, run_und hmu, hget, checkKey_run hkd hc.1, hfk, hold, hstay, hset]
              · have := EsR.modify k2 i (fun e => { e with key := k, val := x }) (fun e => { e with key := k, val := x' }) fun a b hab => ⟨VR.refl0 ρ (key_plain hc.1), hx, hab.2.2⟩
                simpa using this
          · rename_i hf
            cases hv
            obtain ⟨r', h1, h2⟩ := find_sim k2 hf
            rcases h2 with ⟨_, h3⟩ | ⟨j, u, u', e', q1, _⟩
            · subst h3
              have hfk : (Instr.findKey kt k es'.toList).run P w = .ok none w := by simp [Instr.findKey, run_und hkd, h1]
              refine ⟨_, ?_, S.setObj (o1 := .map (es ++ [{ key := k, val := x, born := clk }]) (clk + 1)) (x := .map (es'.push { key := k, val := x', born := clk }) (clk + 1)) hg hρ rfl rfl rfl rfl ⟨hge, _, newobj _, ?_⟩⟩
              · simp [Instr.mapUpdate, run_und hmu, hget, checkKey_run hkd hc.1, hfk, hset]
              · have := EsR.append k2 (b := [{ key := k, val := x, born := clk }]) (b' := [{ key := k, val := x', born := clk }]) (.cons ⟨VR.refl0 ρ (key_plain hc.1), hx, rfl⟩ .nil)
                simpa using this
            · cases q1
          · cases hv
      · cases hv
    · cases hv
  · cases hv
theorem range_sim (S : Sim G P w0 ρ D h w) {t : TypeId} {x x' v : Value} {h2 : AH} (hx : VR ρ x x') (hv : pRange P t x h = some (v, h2)) : Does G P w0 ρ D w (Instr.range t x') v h2 := by
  unfold pRange at hv
  split at hv
  · rename_i s hu
    cases hv
    cases hx
    exact ⟨_, .pointer (some ⟨w.heap.size, 0, none⟩), w.alloc (.stringIter s 0), by simp [Instr.range, run_und hu], ext_le S ⟨w.heap.size, 0, 0, 0, 0⟩, new_ptr S _ rfl rfl, S.alloc _ _ _ rfl ⟨S.lt, rfl, push_new w _⟩⟩
  · cases hv
theorem next_sim (S : Sim G P w0 ρ D h w) {t : TypeId} {b : Bool} {x x' v : Value} {h2 : AH} (hx : VR ρ x x') (hv : pNext x b h = some (v, h2)) : Does G P w0 ρ D w (Instr.next x' b t) v h2 := by
  unfold pNext at hv
  split at hv
  · rename_i r
    split at hv
    · rename_i s pos hg
      cases hx with
      | ptr _ a' hr =>
        obtain ⟨_, rb, hρ, rfl⟩ := hr
        obtain ⟨rb', hρ', hob⟩ := S.objAt hρ hg (by simp)
        rw [hρ] at hρ'
        cases hρ'
        obtain ⟨hge, hb, k1⟩ := hob
        have hlt : rb.blk < w.heap.size := (S.dom _ _ hρ).2
        have hget : (getObj rb.blk).run P w = .ok (.stringIter s pos) w := by simp [getObj, Sem.run, k1]
        have hset : ∀ o, (setObj rb.blk o).run P w = .ok () { w with heap := w.heap.setIfInBounds rb.blk o } := fun o => by simp [setObj, Sem.run, k1]
        simp only [hb, Nat.zero_add]
        split at hv
        · rename_i hp
          simp only [Option.some.injEq, Prod.mk.injEq] at hv
          obtain ⟨rfl, rfl⟩ := hv
          refine ⟨ρ, .tuple #[.bool true, goInt pos, .int .i32 (Utf8.decode s pos).1], { w with heap := w.heap.setIfInBounds rb.blk (.stringIter s (pos + (Utf8.decode s pos).2)) }, ?_, Ren.le_refl _, VR.tuple _ _ rfl ?_, ?_⟩
          · simp [Instr.next, hget, hp, hset]
          · have := (AsR.list (ρ := ρ) (a := #[.bool true, goInt pos, .int .i32 (Utf8.decode s pos).1]) (a' := #[.bool true, goInt pos, .int .i32 (Utf8.decode s pos).1])).2 (LsR.refl0 ρ (by simp [plain0, goInt]))
            exact this.2
          · exact S.setObj hg hρ rfl rfl rfl rfl ⟨hge, hb, by show (w.heap.setIfInBounds rb.blk _)[rb.blk]? = _; rw [Array.getElem?_setIfInBounds_self_of_lt hlt]⟩
        · rename_i hp
          cases hv
          refine ⟨ρ, .tuple #[.bool false], w, by simp [Instr.next, hget, hp], Ren.le_refl _, ?_, S⟩
          have := (AsR.list (ρ := ρ) (a := #[.bool false]) (a' := #[.bool false])).2 (.cons (.bool _) .nil)
          exact .tuple _ _ this.1 this.2
    · cases hv
  · cases hv
end Go.Proofs.Ev
