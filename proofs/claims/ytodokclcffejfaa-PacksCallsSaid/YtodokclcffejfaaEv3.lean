/- The whole relation between abstract memory and world; what a new object, a written cell, a turned object leave of it. -/
import Derived.Test.YtodokclcffejfaaEv2
set_option linter.unusedVariables false
namespace Go.Proofs.Ev
open Go Go.RowKit

/-! ### 1. Objects -/
structure CellsR (P : Program) (B : Nat) (ρ : Ren) (w : World) (r : RB) (c : List Value) (e : TypeId) (own : Bool) : Prop where
  n : r.n = c.length
  le : r.n ≤ r.cap
  heap : ∃ (c' : Array Value) (e' : TypeId) (fz : Nat × Nat), w.heap[r.blk]? = some (.cells c' e' fz) ∧ r.base + r.cap ≤ c'.size ∧
    (∀ (k : Nat) (v : Value), c[k]? = some v → ∃ v', c'[r.base + k]? = some v' ∧ VR ρ v v') ∧
    (own = true → fz.1 = fz.2 ∨ c'.size ≤ fz.1)
  mine : own = true → B ≤ r.blk ∧ szT P e = some r.sz
  ext : own = false → r.blk < B ∧ r.cap = r.n
def EnR (ρ : Ren) (e e' : MapEntry) : Prop := VR ρ e.key e'.key ∧ VR ρ e.val e'.val ∧ e.born = e'.born
inductive EsR (ρ : Ren) : List MapEntry → List MapEntry → Prop
  | nil : EsR ρ [] []
  | cons {x y : MapEntry} {xs ys : List MapEntry} : EnR ρ x y → EsR ρ xs ys → EsR ρ (x :: xs) (y :: ys)
theorem EsR.mono {ρ ρ' : Ren} (h : ρ.le ρ') {a a' : List MapEntry} (k : EsR ρ a a') : EsR ρ' a a' := by
  induction k with
  | nil => exact .nil
  | cons hx _ ih => exact .cons ⟨hx.1.mono h, hx.2.1.mono h, hx.2.2⟩ ih
theorem EsR.length {ρ : Ren} {a a' : List MapEntry} (h : EsR ρ a a') : a.length = a'.length := by
  induction h with
  | nil => rfl
  | cons _ _ ih => simp [ih]
theorem EsR.append {ρ : Ren} {a a' b b' : List MapEntry} (h : EsR ρ a a') (k : EsR ρ b b') : EsR ρ (a ++ b) (a' ++ b') := by
  induction h with
  | nil => exact k
  | cons hx _ ih => exact .cons hx ih
theorem EsR.modify {ρ : Ren} {a a' : List MapEntry} (h : EsR ρ a a') (i : Nat) (f g : MapEntry → MapEntry) (hf : ∀ e e', EnR ρ e e' → EnR ρ (f e) (g e')) : EsR ρ (a.modify i f) (a'.modify i g) := by
  induction h generalizing i with
  | nil => simp; exact .nil
  | cons hx hr ih =>
    cases i with
    | zero => exact .cons (hf _ _ hx) hr
    | succ i => exact .cons hx (ih i)
def mine : AO → Bool
  | .cells _ _ own => own
  | .dead => false
  | _ => true
def isC : AO → Bool
  | .cells .. => true
  | _ => false
/-- 'G': what is known of the code of a round. -/
def ObjR (G : Code → Prop) (P : Program) (B : Nat) (ρ : Ren) (w : World) (r : RB) : AO → Prop
  | .cells c e own => CellsR P B ρ w r c e own
  | .map es clock => B ≤ r.blk ∧ ∃ es' : Array MapEntry, w.heap[r.blk]? = some (.map es' clock) ∧ EsR ρ es es'.toList
  | .iter s pos => B ≤ r.blk ∧ r.base = 0 ∧ w.heap[r.blk]? = some (.stringIter s pos)
  | .loop st pd _ ts ps as bd => B ≤ r.blk ∧ G as ∧ G bd ∧ ∃ (f' : FuncId) (ts' : Array Value) (d : Nat),
      w.heap[r.blk]? = some (.loop { state := st, pending := pd, fn := f', tmps := ts', params := ps, assign := as, body := bd, defers := d }) ∧ AsR ρ ts ts'
  | .dead => True

/-! ### 2. The whole -/
structure Sim (G : Code → Prop) (P : Program) (w0 : World) (ρ : Ren) (D : List Nat) (h : AH) (w : World) : Prop where
  below : Below w0.heap.size w0 w
  dom : ∀ i r, ρ i = some r → i < h.n ∧ r.blk < w.heap.size
  obj : ∀ i o, h.get i = some o → o ≠ .dead → ∃ r, ρ i = some r ∧ ObjR G P w0.heap.size ρ w r o
  sep : ∀ i j oi oj ri rj, i ≠ j → h.get i = some oi → h.get j = some oj → mine oi = true → mine oj = true → ρ i = some ri → ρ j = some rj →
    ri.blk ≠ rj.blk ∨ (isC oi = true ∧ isC oj = true ∧ (ri.base + ri.cap ≤ rj.base ∨ rj.base + rj.cap ≤ ri.base))
  defs : ∀ d ∈ D, w0.heap.size ≤ d ∧ w.heap[d]? = some (.deferred (some []))
  nodup : D.Nodup
variable {G : Code → Prop} {P : Program} {w0 : World} {ρ : Ren} {D : List Nat} {h : AH} {w : World}

theorem Sim.lt (S : Sim G P w0 ρ D h w) : w0.heap.size ≤ w.heap.size := S.below.size
theorem Sim.cells (S : Sim G P w0 ρ D h w) {i : Nat} {c : List Value} {e : TypeId} {own : Bool} (hi : h.get i = some (.cells c e own)) :
    ∃ r, ρ i = some r ∧ CellsR P w0.heap.size ρ w r c e own := S.obj i _ hi (by simp)

theorem ext_le (S : Sim G P w0 ρ D h w) (r : RB) : ρ.le (ρ.ext h.n r) := fun i x hx => by
  have := (S.dom i x hx).1
  unfold Ren.ext
  rw [if_neg (by omega)]; exact hx
theorem ext_new (ρ : Ren) (n : Nat) (r : RB) : ρ.ext n r n = some r := by simp [Ren.ext]
theorem ext_old (ρ : Ren) {n i : Nat} (r : RB) (hi : i ≠ n) : ρ.ext n r i = ρ i := by simp [Ren.ext, hi]

/-- An object that lies as it lay. -/
theorem ObjR.same {B : Nat} {ρ ρ' : Ren} {w w' : World} {r : RB} {o : AO} (h : ObjR G P B ρ w r o) (hρ : ρ.le ρ') (hw : w'.heap[r.blk]? = w.heap[r.blk]?) : ObjR G P B ρ' w' r o := by
  cases o with
  | cells c e own =>
    obtain ⟨c', e', fz, h1, h2, h3, h4⟩ := CellsR.heap h
    exact ⟨CellsR.n h, CellsR.le h, ⟨c', e', fz, hw.trans h1, h2, fun k v hv => let ⟨v', a, b⟩ := h3 k v hv; ⟨v', a, b.mono hρ⟩, h4⟩, CellsR.mine h, CellsR.ext h⟩
  | map es clk => obtain ⟨h0, es', h1, h2⟩ := h; exact ⟨h0, es', hw.trans h1, h2.mono hρ⟩
  | iter s p => obtain ⟨h0, hb, h1⟩ := h; exact ⟨h0, hb, hw.trans h1⟩
  | loop st pd f ts ps as bd => obtain ⟨h0, g1, g2, f', ts', d, h1, h2⟩ := h; exact ⟨h0, g1, g2, f', ts', d, hw.trans h1, h2.mono hρ⟩
  | dead => trivial
theorem ObjR.blk_ge {B : Nat} {r : RB} {o : AO} (h : ObjR G P B ρ w r o) (hm : mine o = true) : B ≤ r.blk := by
  cases o with
  | cells c e own => exact (CellsR.mine h hm).1
  | map es clk => exact h.1
  | iter s p => exact h.1
  | loop st pd f ts ps as bd => exact h.1
  | dead => simp [mine] at hm
theorem ObjR.heap_some {B : Nat} {r : RB} {o : AO} (h : ObjR G P B ρ w r o) (hm : o ≠ .dead) : ∃ x, w.heap[r.blk]? = some x ∧ (isC o = true ↔ ∃ c e f, x = .cells c e f) := by
  cases o with
  | cells c e own => obtain ⟨c', e', fz, h1, _⟩ := CellsR.heap h; exact ⟨_, h1, by simp [isC]⟩
  | map es clk => obtain ⟨_, es', h1, _⟩ := h; exact ⟨_, h1, by simp [isC]⟩
  | iter s p => exact ⟨_, h.2.2, by simp [isC]⟩
  | loop st pd f ts ps as bd => obtain ⟨_, _, _, f', ts', d, h1, _⟩ := h; exact ⟨_, h1, by simp [isC]⟩
  | dead => exact absurd rfl hm

theorem Sim.drawn (S : Sim G P w0 ρ D h w) (n : Nat) : Sim G P w0 ρ D h { w with drawn := n } :=
  ⟨⟨S.below.os, S.below.tape, S.below.output, S.below.size, S.below.block⟩, S.dom, fun i o hi hd => let ⟨r, hr, ho⟩ := S.obj i o hi hd; ⟨r, hr, ObjR.same ho (Ren.le_refl _) rfl⟩, S.sep, S.defs, S.nodup⟩
theorem push_old (w : World) (o : Obj) {k : Nat} (hk : k < w.heap.size) : (w.alloc o).heap[k]? = w.heap[k]? := Below.heap_alloc w o k hk
theorem push_new (w : World) (o : Obj) : (w.alloc o).heap[w.heap.size]? = some o := by
  show (w.heap.push o)[w.heap.size]? = _
  simp

/-- A new object on either side. -/
theorem Sim.alloc (S : Sim G P w0 ρ D h w) (o : AO) (o' : Obj) (r : RB) (hr : r.blk = w.heap.size) (ho : ObjR G P w0.heap.size (ρ.ext h.n r) (w.alloc o') r o) :
    Sim G P w0 (ρ.ext h.n r) D (h.alloc o) (w.alloc o') := by
  have hle := ext_le S r
  refine ⟨S.below.alloc S.lt o', ?_, ?_, ?_, ?_, S.nodup⟩
  · intro i x hx
    by_cases hi : i = h.n
    · subst hi
      rw [ext_new] at hx
      cases hx
      simp [hr]
    · rw [ext_old ρ r hi] at hx
      have := S.dom i x hx
      simp
      omega
  · intro i x hx hd
    by_cases hi : i = h.n
    · subst hi
      rw [AH.get_alloc_new] at hx
      cases hx
      exact ⟨r, ext_new _ _ _, ho⟩
    · have hlt : i < h.n := by have := AH.get_lt hx; simp at this; omega
      rw [AH.get_alloc_old h o hlt] at hx
      obtain ⟨q, hq, hob⟩ := S.obj i x hx hd
      exact ⟨q, hle _ _ hq, hob.same hle (push_old w o' (S.dom i q hq).2)⟩
  · intro i j oi oj ri rj hij hi hj mi mj hri hrj
    have key : ∀ i j oi oj ri rj, i ≠ j → i = h.n → (h.alloc o).get i = some oi → (h.alloc o).get j = some oj → mine oj = true → ρ.ext h.n r i = some ri → ρ.ext h.n r j = some rj → ri.blk ≠ rj.blk := by
      intro i j oi oj ri rj hij hin hi hj mj hri hrj
      subst hin
      rw [ext_new] at hri
      cases hri
      have hjn : j ≠ h.n := Ne.symm hij
      rw [ext_old ρ r hjn] at hrj
      have := (S.dom j rj hrj).2
      omega
    by_cases hi' : i = h.n
    · exact .inl (key i j oi oj ri rj hij hi' hi hj mj hri hrj)
    · by_cases hj' : j = h.n
      · exact .inl (Ne.symm (key j i oj oi rj ri (Ne.symm hij) hj' hj hi mi hrj hri))
      · have l1 : i < h.n := by have := AH.get_lt hi; simp at this; omega
        have l2 : j < h.n := by have := AH.get_lt hj; simp at this; omega
        rw [AH.get_alloc_old h o l1] at hi
        rw [AH.get_alloc_old h o l2] at hj
        rw [ext_old ρ r hi'] at hri
        rw [ext_old ρ r hj'] at hrj
        exact S.sep i j oi oj ri rj hij hi hj mi mj hri hrj
  · intro d hd
    obtain ⟨h1, h2⟩ := S.defs d hd
    have : d < w.heap.size := (Array.getElem?_eq_some_iff.1 h2).1
    exact ⟨h1, by rw [push_old w o' this]; exact h2⟩

/-- A block of the concrete side alone, for the deferred calls of a loop. -/
theorem Sim.allocDefers (S : Sim G P w0 ρ D h w) : Sim G P w0 ρ (w.heap.size :: D) h (w.alloc (.deferred (some []))) := by
  refine ⟨S.below.alloc S.lt _, fun i r hr => ?_, fun i o hi hd => ?_, S.sep, fun d hd => ?_, List.nodup_cons.2 ⟨fun hm => by have := (Array.getElem?_eq_some_iff.1 (S.defs _ hm).2).1; omega, S.nodup⟩⟩
  · have := S.dom i r hr
    simp
    omega
  · obtain ⟨q, hq, hob⟩ := S.obj i o hi hd
    exact ⟨q, hq, hob.same (Ren.le_refl _) (push_old w _ (S.dom i q hq).2)⟩
  · rcases List.mem_cons.1 hd with rfl | hd
    · exact ⟨S.lt, push_new w _⟩
    · obtain ⟨h1, h2⟩ := S.defs d hd
      have : d < w.heap.size := (Array.getElem?_eq_some_iff.1 h2).1
      exact ⟨h1, by rw [push_old w _ this]; exact h2⟩

/-- An object given up. -/
theorem Sim.giveUp (S : Sim G P w0 ρ D h w) (i : Nat) : Sim G P w0 ρ D (h.set i .dead) w := by
  refine ⟨S.below, fun j r hr => by simpa using S.dom j r hr, fun j o hj hd => ?_, fun a b oa ob ra rb hab ha hb ma mb hra hrb => ?_, S.defs, S.nodup⟩
  · by_cases hij : i = j
    · subst hij
      cases ho : h.get i with
      | some x => rw [AH.get_set_same h _ x ho] at hj; cases hj; exact absurd rfl hd
      | none =>
        by_cases hlt : i < h.n
        · unfold AH.set at hj
          rw [if_pos hlt] at hj
          unfold AH.get at hj ho
          rw [if_pos hlt] at hj ho
          simp only at hj
          rw [List.getElem?_set] at hj
          rw [List.getElem?_eq_none_iff] at ho
          split at hj
          · split at hj
            · omega
            · cases hj
          · rename_i hne; exact absurd rfl hne
        · unfold AH.set at hj; rw [if_neg hlt] at hj; rw [ho] at hj; cases hj
    · rw [AH.get_set_other h _ hij] at hj
      exact S.obj j o hj hd
  · have g : ∀ (x : Nat) (o : AO), (h.set i .dead).get x = some o → mine o = true → h.get x = some o := by
      intro x o hx hm
      by_cases hix : i = x
      · subst hix
        cases ho : h.get i with
        | some y => rw [AH.get_set_same h _ y ho] at hx; cases hx; simp [mine] at hm
        | none =>
          exfalso
          by_cases hlt : i < h.n
          · unfold AH.set at hx
            rw [if_pos hlt] at hx
            unfold AH.get at hx ho
            rw [if_pos hlt] at hx ho
            simp only at hx
            rw [List.getElem?_set] at hx
            rw [List.getElem?_eq_none_iff] at ho
            split at hx
            · split at hx
              · omega
              · cases hx
            · rename_i hne; exact absurd rfl hne
          · unfold AH.set at hx; rw [if_neg hlt] at hx; rw [ho] at hx; cases hx
      · rwa [AH.get_set_other h _ hix] at hx
    exact S.sep a b oa ob ra rb hab (g a oa ha ma) (g b ob hb mb) ma mb hra hrb

/-- An object of one's own turned, on either side, its kind kept; the block is another one's no more than before. -/
theorem Sim.turn (S : Sim G P w0 ρ D h w) {i : Nat} {o o1 : AO} {r : RB} {w1 : World} (hi : h.get i = some o) (hr : ρ i = some r) (hm : mine o = true) (hm1 : mine o1 = true) (hc : isC o1 = isC o)
    (hb : Below w0.heap.size w0 w1) (hsz : w1.heap.size = w.heap.size) (hother : ∀ k, k ≠ r.blk → w1.heap[k]? = w.heap[k]?)
    (hsame : ∀ j oj rj, j ≠ i → h.get j = some oj → mine oj = true → ρ j = some rj → rj.blk = r.blk → ObjR G P w0.heap.size ρ w rj oj → ObjR G P w0.heap.size ρ w1 rj oj)
    (ho : ObjR G P w0.heap.size ρ w1 r o1) : Sim G P w0 ρ D (h.set i o1) w1 := by
  have hob := S.obj i o hi (by rintro rfl; simp [mine] at hm)
  obtain ⟨r0, hr0, hob⟩ := hob
  rw [hr] at hr0
  cases hr0
  have hge := hob.blk_ge hm
  refine ⟨hb, fun j q hq => by have := S.dom j q hq; simp; omega, fun j oj hj hd => ?_, fun a b oa ob ra rb hab ha hb' ma mb hra hrb => ?_, fun d hd => ?_, S.nodup⟩
  · by_cases hij : i = j
    · subst hij
      rw [AH.get_set_same h _ o hi] at hj
      cases hj
      exact ⟨r, hr, ho⟩
    · rw [AH.get_set_other h _ hij] at hj
      obtain ⟨q, hq, hobj⟩ := S.obj j oj hj hd
      refine ⟨q, hq, ?_⟩
      by_cases hqr : q.blk = r.blk
      · by_cases hmj : mine oj = true
        · exact hsame j oj q (Ne.symm hij) hj hmj hq hqr hobj
        · cases oj with
          | cells c e own =>
            have : own = false := by simpa [mine] using hmj
            have := (CellsR.ext hobj this).1
            omega
          | dead => exact absurd rfl hd
          | _ => simp [mine] at hmj
      · exact hobj.same (Ren.le_refl _) (hother _ hqr)
  · have g : ∀ (x : Nat) (ox : AO), (h.set i o1).get x = some ox → mine ox = true → ∃ oy, h.get x = some oy ∧ mine oy = true ∧ isC oy = isC ox := by
      intro x ox hx hmx
      by_cases hix : i = x
      · subst hix
        rw [AH.get_set_same h _ o hi] at hx
        cases hx
        exact ⟨o, hi, hm, hc.symm⟩
      · rw [AH.get_set_other h _ hix] at hx
        exact ⟨ox, hx, hmx, rfl⟩
    obtain ⟨oa', ha1, ha2, ha3⟩ := g a oa ha ma
    obtain ⟨ob', hb1, hb2, hb3⟩ := g b ob hb' mb
    rw [← ha3, ← hb3]
    exact S.sep a b oa' ob' ra rb hab ha1 hb1 ha2 hb2 hra hrb
  · obtain ⟨h1, h2⟩ := S.defs d hd
    refine ⟨h1, ?_⟩
    by_cases hdr : d = r.blk
    · obtain ⟨x, hx, _⟩ := hob.heap_some (by rintro rfl; simp [mine] at hm)
      rw [← hdr, h2] at hx
      cases hx
      exfalso
      cases o with
      | cells c e own => obtain ⟨c', e', fz, k1, _⟩ := CellsR.heap hob; rw [← hdr, h2] at k1; cases k1
      | map es clk => obtain ⟨_, es', k1, _⟩ := hob; rw [← hdr, h2] at k1; cases k1
      | iter s p => have := hob.2.2; rw [← hdr, h2] at this; cases this
      | loop st pd f ts ps as bd => obtain ⟨_, _, _, f', ts', d', k1, _⟩ := hob; rw [← hdr, h2] at k1; cases k1
      | dead => simp [mine] at hm
    · rw [hother _ hdr]; exact h2

/-- An object that is no row of cells, turned. -/
theorem Sim.setObj (S : Sim G P w0 ρ D h w) {i : Nat} {o o1 : AO} {r : RB} {x : Obj} (hi : h.get i = some o) (hr : ρ i = some r) (hm : mine o = true) (hm1 : mine o1 = true) (hc : isC o = false) (hc1 : isC o1 = false)
    (ho : ObjR G P w0.heap.size ρ { w with heap := w.heap.setIfInBounds r.blk x } r o1) : Sim G P w0 ρ D (h.set i o1) { w with heap := w.heap.setIfInBounds r.blk x } := by
  obtain ⟨r0, hr0, hob⟩ := S.obj i o hi (by rintro rfl; simp [mine] at hm)
  rw [hr] at hr0
  cases hr0
  have hge := hob.blk_ge hm
  have hother : ∀ k, k ≠ r.blk → (w.heap.setIfInBounds r.blk x)[k]? = w.heap[k]? := fun k hk => Array.getElem?_setIfInBounds_ne (Ne.symm hk)
  refine S.turn hi hr hm hm1 (by rw [hc, hc1]) ⟨S.below.os, S.below.tape, S.below.output, by simpa using S.below.size, fun k hk => ?_⟩ (by simp) hother ?_ ho
  · rw [hother k (by omega)]; exact S.below.block k hk
  · intro j oj rj hji hj hmj hrj heq hobj
    rcases S.sep j i oj o rj r hji hj hi hmj hm hrj hr with h1 | ⟨_, h2, _⟩
    · exact absurd heq h1
    · rw [hc] at h2; cases h2
end Go.Proofs.Ev
