/- The whole relation between abstract memory and world; what a new object, a written cell, a turned object leave of it. -/
import Derived.Test.YtpiibdegmimckaaEv2
set_option linter.unusedVariables false
namespace Go.Proofs.Ev
open Go Go.RowKit

/-! ### 1. Objects -/
structure CellsR (P : Program) (B : Nat) (ρ : Ren) (w : World) (r : RB) (c : List Value) (e : TypeId) (own : Bool) : Prop where
  n : r.n = c.length
  le : r.n ≤ r.cap
  heap : ∃ (c' : Array Value) (e' : TypeId) (fz : Nat × Nat), w.heap[r.blk]? = some (.cells c' e' fz) ∧ r.base + r.cap ≤ c'.size ∧
    (∀ (k : Nat) (v : Value), c[k]? = some v → ∃ v', c'[r.base + k]? = some v' ∧ VR ρ v v') ∧
    (own = true → fz.1 = fz.2 ∨ c'.size ≤ fz.1)
  mine : own = true → B ≤ r.blk ∧ szT P e = some r.sz
  ext : own = false → r.blk < B ∧ r.cap = r.n
def EnR (ρ : Ren) (e e' : MapEntry) : Prop := VR ρ e.key e'.key ∧ VR ρ e.val e'.val ∧ e.born = e'.born
inductive EsR (ρ : Ren) : List MapEntry → List MapEntry → Prop
  | nil : EsR ρ [] []
  | cons {x y : MapEntry} {xs ys : List MapEntry} : EnR ρ x y → EsR ρ xs ys → EsR ρ (x :: xs) (y :: ys)
theorem EsR.mono {ρ ρ' : Ren} (h : ρ.le ρ') {a a' : List MapEntry} (k : EsR ρ a a') : EsR ρ' a a' := by
  induction k with
  | nil => exact .nil
  | cons hx _ ih => exact .cons ⟨hx.1.mono h, hx.2.1.mono h, hx.2.2⟩ ih
theorem EsR.length {ρ : Ren} {a a' : List MapEntry} (h : EsR ρ a a') : a.length = a'.length := by
  induction h with
  | nil => rfl
  | cons _ _ ih => simp [ih]
theorem EsR.append {ρ : Ren} {a a' b b' : List MapEntry} (h : EsR ρ a a') (k : EsR ρ b b') : EsR ρ (a ++ b) (a' ++ b') := by
  induction h with
  | nil => exact k
  | cons hx _ ih => exact .cons hx ih
theorem EsR.modify {ρ : Ren} {a a' : List MapEntry} (h : EsR ρ a a') (i : Nat) (f g : MapEntry → MapEntry) (hf : ∀ e e', EnR ρ e e' → EnR ρ (f e) (g e')) : EsR ρ (a.modify i f) (a'.modify i g) := by
  induction h generalizing i with
  | nil => simp; exact .nil
  | cons hx hr ih =>
    cases i with
    | zero => exact .cons (hf _ _ hx) hr
    | succ i => exact .cons hx (ih i)
def mine : AO → Bool
  | .cells _ _ own => own
  | .dead => false
  | _ => true
def isC : AO → Bool
  | .cells .. => true
  | _ => false
/-- 'G': what is known of the code of a round. -/
def ObjR (G : Code → Prop) (P : Program) (B : Nat) (ρ : Ren) (w : World) (r : RB) : AO → Prop
  | .cells c e own => CellsR P B ρ w r c e own
  | .map es clock => B ≤ r.blk ∧ ∃ es' : Array MapEntry, w.heap[r.blk]? = some (.map es' clock) ∧ EsR ρ es es'.toList
  | .iter s pos => B ≤ r.blk ∧ r.base = 0 ∧ w.heap[r.blk]? = some (.stringIter s pos)
  | .loop st pd _ ts ps as bd => B ≤ r.blk ∧ G as ∧ G bd ∧ ∃ (f' : FuncId) (ts' : Array Value) (d : Nat),
      w.heap[r.blk]? = some (.loop { state := st, pending := pd, fn := f', tmps := ts', params := ps, assign := as, body := bd, defers := d }) ∧ AsR ρ ts ts'
  | .dead => True

/-! ### 2. The whole -/
/-- What is known of blocks that the evaluator does not see: deferred calls of a loop; blocks that it has, but the world has not yet ('late'). -/
inductive Mk where
  | d (n : Nat)
  | late (b : Nat) (o : AO)
def Mk.key : Mk → Nat
  | .d n => 2 * n
  | .late b _ => 2 * b + 1
def Late (D : List Mk) (i : Nat) : Prop := ∃ o, Mk.late i o ∈ D
structure Sim (G : Code → Prop) (P : Program) (w0 : World) (ρ : Ren) (D : List Mk) (h : AH) (w : World) : Prop where
  below : Below w0.heap.size w0 w
  dom : ∀ i r, ρ i = some r → i < h.n ∧ r.blk < w.heap.size
  obj : ∀ i o, h.get i = some o → o ≠ .dead → ¬ Late D i → ∃ r, ρ i = some r ∧ ObjR G P w0.heap.size ρ w r o
  sep : ∀ i j oi oj ri rj, i ≠ j → h.get i = some oi → h.get j = some oj → mine oi = true → mine oj = true → ρ i = some ri → ρ j = some rj →
    ri.blk ≠ rj.blk ∨ (isC oi = true ∧ isC oj = true ∧ (ri.base + ri.cap ≤ rj.base ∨ rj.base + rj.cap ≤ ri.base))
  defs : ∀ d, Mk.d d ∈ D → w0.heap.size ≤ d ∧ w.heap[d]? = some (.deferred (some []))
  nodup : (D.map Mk.key).Nodup
  late : ∀ b o, Mk.late b o ∈ D → ρ b = none ∧ (h.get b = some o ∨ h.get b = some .dead)
variable {G : Code → Prop} {P : Program} {w0 : World} {ρ : Ren} {D : List Mk} {h : AH} {w : World}

theorem Sim.lt (S : Sim G P w0 ρ D h w) : w0.heap.size ≤ w.heap.size := S.below.size
theorem Sim.notLate (S : Sim G P w0 ρ D h w) {i : Nat} {r : RB} (hr : ρ i = some r) : ¬ Late D i := fun ⟨o, ho⟩ => by
  rw [(S.late i o ho).1] at hr
  cases hr
theorem Sim.objAt (S : Sim G P w0 ρ D h w) {i : Nat} {o : AO} {r0 : RB} (hr : ρ i = some r0) (hi : h.get i = some o) (hd : o ≠ .dead) : ∃ r, ρ i = some r ∧ ObjR G P w0.heap.size ρ w r o := S.obj i o hi hd (S.notLate hr)
theorem Sim.cells (S : Sim G P w0 ρ D h w) {i : Nat} {c : List Value} {e : TypeId} {own : Bool} {r0 : RB} (hr : ρ i = some r0) (hi : h.get i = some (.cells c e own)) :
    ∃ r, ρ i = some r ∧ CellsR P w0.heap.size ρ w r c e own := S.objAt hr hi (by simp)
theorem Sim.lateLt (S : Sim G P w0 ρ D h w) {b : Nat} {o : AO} (hb : Mk.late b o ∈ D) : b < h.n := by
  rcases (S.late b o hb).2 with h1 | h1 <;> exact AH.get_lt h1

theorem ext_le (S : Sim G P w0 ρ D h w) (r : RB) : ρ.le (ρ.ext h.n r) := fun i x hx => by
  have := (S.dom i x hx).1
  unfold Ren.ext
  rw [if_neg (by omega)]; exact hx
theorem ext_new (ρ : Ren) (n : Nat) (r : RB) : ρ.ext n r n = some r := by simp [Ren.ext]
theorem ext_old (ρ : Ren) {n i : Nat} (r : RB) (hi : i ≠ n) : ρ.ext n r i = ρ i := by simp [Ren.ext, hi]

/-- An object that lies as it lay. -/
theorem ObjR.same {B : Nat} {ρ ρ' : Ren} {w w' : World} {r : RB} {o : AO} (h : ObjR G P B ρ w r o) (hρ : ρ.le ρ') (hw : w'.heap[r.blk]? = w.heap[r.blk]?) : ObjR G P B ρ' w' r o := by
  cases o with
  | cells c e own =>
    obtain ⟨c', e', fz, h1, h2, h3, h4⟩ := CellsR.heap h
    exact ⟨CellsR.n h, CellsR.le h, ⟨c', e', fz, hw.trans h1, h2, fun k v hv => let ⟨v', a, b⟩ := h3 k v hv; ⟨v', a, b.mono hρ⟩, h4⟩, CellsR.mine h, CellsR.ext h⟩
  | map es clk => obtain ⟨h0, es', h1, h2⟩ := h; exact ⟨h0, es', hw.trans h1, h2.mono hρ⟩
  | iter s p => obtain ⟨h0, hb, h1⟩ := h; exact ⟨h0, hb, hw.trans h1⟩
  | loop st pd f ts ps as bd => obtain ⟨h0, g1, g2, f', ts', d, h1, h2⟩ := h; exact ⟨h0, g1, g2, f', ts', d, hw.trans h1, h2.mono hρ⟩
  | dead => trivial
theorem ObjR.blk_ge {B : Nat} {r : RB} {o : AO} (h : ObjR G P B ρ w r o) (hm : mine o = true) : B ≤ r.blk := by
  cases o with
  | cells c e own => exact (CellsR.mine h hm).1
  | map es clk => exact h.1
  | iter s p => exact h.1
  | loop st pd f ts ps as bd => exact h.1
  | dead => simp [mine] at hm
theorem ObjR.heap_some {B : Nat} {r : RB} {o : AO} (h : ObjR G P B ρ w r o) (hm : o ≠ .dead) : ∃ x, w.heap[r.blk]? = some x ∧ (isC o = true ↔ ∃ c e f, x = .cells c e f) := by
  cases o with
  | cells c e own => obtain ⟨c', e', fz, h1, _⟩ := CellsR.heap h; exact ⟨_, h1, by simp [isC]⟩
  | map es clk => obtain ⟨_, es', h1, _⟩ := h; exact ⟨_, h1, by simp [isC]⟩
  | iter s p => exact ⟨_, h.2.2, by simp [isC]⟩
  | loop st pd f ts ps as bd => obtain ⟨_, _, _, f', ts', d, h1, _⟩ := h; exact ⟨_, h1, by simp [isC]⟩
  | dead => exact absurd rfl hm

theorem Sim.drawn (S : Sim G P w0 ρ D h w) (n : Nat) : Sim G P w0 ρ D h { w with drawn := n } :=
  ⟨⟨S.below.os, S.below.tape, S.below.output, S.below.size, S.below.block⟩, S.dom, fun i o hi hd hl => let ⟨r, hr, ho⟩ := S.obj i o hi hd hl; ⟨r, hr, ObjR.same ho (Ren.le_refl _) rfl⟩, S.sep, S.defs, S.nodup, S.late⟩
theorem push_old (w : World) (o : Obj) {k : Nat} (hk : k < w.heap.size) : (w.alloc o).heap[k]? = w.heap[k]? := Below.heap_alloc w o k hk
theorem push_new (w : World) (o : Obj) : (w.alloc o).heap[w.heap.size]? = some o := by
  show (w.heap.push o)[w.heap.size]? = _
  simp

/-- A new object on either side. -/
theorem Sim.alloc (S : Sim G P w0 ρ D h w) (o : AO) (o' : Obj) (r : RB) (hr : r.blk = w.heap.size) (ho : ObjR G P w0.heap.size (ρ.ext h.n r) (w.alloc o') r o) :
    Sim G P w0 (ρ.ext h.n r) D (h.alloc o) (w.alloc o') := by
  have hle := ext_le S r
  refine ⟨S.below.alloc S.lt o', ?_, ?_, ?_, ?_, S.nodup, fun b ob hb => ?_⟩
  · intro i x hx
    by_cases hi : i = h.n
    · subst hi
      rw [ext_new] at hx
      cases hx
      simp [hr]
    · rw [ext_old ρ r hi] at hx
      have := S.dom i x hx
      simp
      omega
  · intro i x hx hd hl
    by_cases hi : i = h.n
    · subst hi
      rw [AH.get_alloc_new] at hx
      cases hx
      exact ⟨r, ext_new _ _ _, ho⟩
    · have hlt : i < h.n := by have := AH.get_lt hx; simp at this; omega
      rw [AH.get_alloc_old h o hlt] at hx
      obtain ⟨q, hq, hob⟩ := S.obj i x hx hd hl
      exact ⟨q, hle _ _ hq, hob.same hle (push_old w o' (S.dom i q hq).2)⟩
  · intro i j oi oj ri rj hij hi hj mi mj hri hrj
    have key : ∀ i j oi oj ri rj, i ≠ j → i = h.n → (h.alloc o).get i = some oi → (h.alloc o).get j = some oj → mine oj = true → ρ.ext h.n r i = some ri → ρ.ext h.n r j = some rj → ri.blk ≠ rj.blk := by
      intro i j oi oj ri rj hij hin hi hj mj hri hrj
      subst hin
      rw [ext_new] at hri
      cases hri
      have hjn : j ≠ h.n := Ne.symm hij
      rw [ext_old ρ r hjn] at hrj
      have := (S.dom j rj hrj).2
      omega
    by_cases hi' : i = h.n
    · exact .inl (key i j oi oj ri rj hij hi' hi hj mj hri hrj)
    · by_cases hj' : j = h.n
      · exact .inl (Ne.symm (key j i oj oi rj ri (Ne.symm hij) hj' hj hi mi hrj hri))
      · have l1 : i < h.n := by have := AH.get_lt hi; simp at this; omega
        have l2 : j < h.n := by have := AH.get_lt hj; simp at this; omega
        rw [AH.get_alloc_old h o l1] at hi
        rw [AH.get_alloc_old h o l2] at hj
        rw [ext_old ρ r hi'] at hri
        rw [ext_old ρ r hj'] at hrj
        exact S.sep i j oi oj ri rj hij hi hj mi mj hri hrj
  · intro d hd
    obtain ⟨h1, h2⟩ := S.defs d hd
    have : d < w.heap.size := (Array.getElem?_eq_some_iff.1 h2).1
    exact ⟨h1, by rw [push_old w o' this]; exact h2⟩
  · have hlt := S.lateLt hb
    rw [ext_old ρ r (by omega), AH.get_alloc_old h o hlt]
    exact S.late b ob hb

theorem nodup_d {D : List Mk} {n : Nat} (h : Mk.d n ∉ D) (hn : (D.map Mk.key).Nodup) : ((Mk.d n :: D).map Mk.key).Nodup := by
  rw [List.map_cons, List.nodup_cons]
  refine ⟨fun hm => ?_, hn⟩
  obtain ⟨x, hx, he⟩ := List.mem_map.1 hm
  cases x with
  | d m =>
    simp only [Mk.key] at he
    obtain rfl : m = n := by omega
    exact h hx
  | late b o => simp only [Mk.key] at he; omega
theorem nodup_late {D : List Mk} {b : Nat} {o : AO} (h : ¬ Late D b) (hn : (D.map Mk.key).Nodup) : ((Mk.late b o :: D).map Mk.key).Nodup := by
  rw [List.map_cons, List.nodup_cons]
  refine ⟨fun hm => ?_, hn⟩
  obtain ⟨x, hx, he⟩ := List.mem_map.1 hm
  cases x with
  | d m => simp only [Mk.key] at he; omega
  | late b' o' =>
    simp only [Mk.key] at he
    obtain rfl : b' = b := by omega
    exact h ⟨o', hx⟩
/-- A block that the evaluator has, and the world not yet. -/
theorem Sim.reserve (S : Sim G P w0 ρ D h w) (o : AO) : Sim G P w0 ρ (Mk.late h.n o :: D) (h.alloc o) w := by
  have hnone : ρ h.n = none := by
    cases hr : ρ h.n with
    | none => rfl
    | some r => have := (S.dom _ _ hr).1; omega
  have old : ∀ i x, (h.alloc o).get i = some x → i ≠ h.n → h.get i = some x := fun i x hx hi => by
    have hlt : i < h.n := by have := AH.get_lt hx; simp at this; omega
    rwa [AH.get_alloc_old h o hlt] at hx
  refine ⟨S.below, fun i r hr => ?_, fun i x hi hd hl => ?_, fun i j oi oj ri rj hij hi hj mi mj hri hrj => ?_, fun d hd => S.defs d (by simpa using hd), nodup_late (fun ⟨o', ho'⟩ => ?_) S.nodup, fun b ob hb => ?_⟩
  · have := S.dom i r hr
    simp
    omega
  · by_cases hin : i = h.n
    · subst hin
      exact absurd ⟨o, by simp⟩ hl
    · exact S.obj i x (old i x hi hin) hd (fun ⟨o', ho'⟩ => hl ⟨o', by simp [ho']⟩)
  · have h1 : i ≠ h.n := by rintro rfl; rw [hnone] at hri; cases hri
    have h2 : j ≠ h.n := by rintro rfl; rw [hnone] at hrj; cases hrj
    exact S.sep i j oi oj ri rj hij (old i oi hi h1) (old j oj hj h2) mi mj hri hrj
  · have := S.lateLt ho'
    omega
  · rcases List.mem_cons.1 hb with hb | hb
    · cases hb
      exact ⟨hnone, .inl (AH.get_alloc_new h o)⟩
    · rw [AH.get_alloc_old h o (S.lateLt hb)]
      exact S.late b ob hb
/-- Such a block, made in the world, too. -/
theorem Sim.settle {D2 : List Mk} (S : Sim G P w0 ρ D h w) {b : Nat} {o : AO} (hb : Mk.late b o ∈ D) (hD : ∀ x ∈ D2, x ∈ D) (hD' : ∀ x ∈ D, x ∈ D2 ∨ ∃ o', x = Mk.late b o') (hnd : (D2.map Mk.key).Nodup) (hl : ¬ Late D2 b)
    (o' : Obj) (r : RB) (hr : r.blk = w.heap.size) (ho : ObjR G P w0.heap.size (ρ.ext b r) (w.alloc o') r o) : ρ.le (ρ.ext b r) ∧ Sim G P w0 (ρ.ext b r) D2 h (w.alloc o') := by
  have hnone := (S.late b o hb).1
  have hbn := S.lateLt hb
  have hle : ρ.le (ρ.ext b r) := fun i x hx => by
    have : i ≠ b := by rintro rfl; rw [hnone] at hx; cases hx
    rw [ext_old ρ r this]; exact hx
  refine ⟨hle, S.below.alloc S.lt o', fun i x hx => ?_, fun i x hx hd hli => ?_, fun i j oi oj ri rj hij hi hj mi mj hri hrj => ?_, fun d hd => ?_, hnd, fun b' ob hb' => ?_⟩
  · by_cases hi : i = b
    · subst hi
      rw [ext_new] at hx
      cases hx
      simp [hr]
      exact hbn
    · rw [ext_old ρ r hi] at hx
      have := S.dom i x hx
      simp
      omega
  · by_cases hi : i = b
    · subst hi
      refine ⟨r, ext_new _ _ _, ?_⟩
      rcases (S.late i o hb).2 with h1 | h1
      · rw [h1] at hx; cases hx; exact ho
      · rw [h1] at hx; cases hx; exact absurd rfl hd
    · obtain ⟨q, hq, hob⟩ := S.obj i x hx hd (fun ⟨o1, ho1⟩ => by
        rcases hD' _ ho1 with h1 | ⟨o2, h1⟩
        · exact hli ⟨o1, h1⟩
        · cases h1; exact hi rfl)
      exact ⟨q, hle _ _ hq, hob.same hle (push_old w o' (S.dom i q hq).2)⟩
  · have key : ∀ (i j : Nat) (oj : AO) (ri rj : RB), i ≠ j → i = b → h.get j = some oj → ρ.ext b r i = some ri → ρ.ext b r j = some rj → ri.blk ≠ rj.blk := by
      intro i j oj ri rj hij hib hj hri hrj
      subst hib
      rw [ext_new] at hri
      cases hri
      rw [ext_old ρ r (Ne.symm hij)] at hrj
      have := (S.dom j rj hrj).2
      omega
    by_cases hi' : i = b
    · exact .inl (key i j oj ri rj hij hi' hj hri hrj)
    · by_cases hj' : j = b
      · exact .inl (Ne.symm (key j i oi rj ri (Ne.symm hij) hj' hi hrj hri))
      · rw [ext_old ρ r hi'] at hri
        rw [ext_old ρ r hj'] at hrj
        exact S.sep i j oi oj ri rj hij hi hj mi mj hri hrj
  · obtain ⟨h1, h2⟩ := S.defs d (hD _ hd)
    have : d < w.heap.size := (Array.getElem?_eq_some_iff.1 h2).1
    exact ⟨h1, by rw [push_old w o' this]; exact h2⟩
  · have hne : b' ≠ b := by
      rintro rfl
      exact hl ⟨ob, hb'⟩
    rw [ext_old ρ r hne]
    exact S.late b' ob (hD _ hb')

/-- A block of the concrete side alone, for the deferred calls of a loop. -/
theorem Sim.allocDefers (S : Sim G P w0 ρ D h w) : Sim G P w0 ρ (Mk.d w.heap.size :: D) h (w.alloc (.deferred (some []))) := by
  refine ⟨S.below.alloc S.lt _, fun i r hr => ?_, fun i o hi hd hl => ?_, S.sep, fun d hd => ?_, nodup_d (fun hm => by have := (Array.getElem?_eq_some_iff.1 (S.defs _ hm).2).1; omega) S.nodup, fun b o hb => S.late b o (by simpa using hb)⟩
  · have := S.dom i r hr
    simp
    omega
  · obtain ⟨q, hq, hob⟩ := S.obj i o hi hd (fun ⟨o, ho⟩ => hl ⟨o, List.mem_cons_of_mem _ ho⟩)
    exact ⟨q, hq, hob.same (Ren.le_refl _) (push_old w _ (S.dom i q hq).2)⟩
  · rcases List.mem_cons.1 hd with hd | hd
    · cases hd; exact ⟨S.lt, push_new w _⟩
    · obtain ⟨h1, h2⟩ := S.defs d hd
      have : d < w.heap.size := (Array.getElem?_eq_some_iff.1 h2).1
      exact ⟨h1, by rw [push_old w _ this]; exact h2⟩

/-- An object given up. -/
theorem Sim.giveUp (S : Sim G P w0 ρ D h w) (i : Nat) : Sim G P w0 ρ D (h.set i .dead) w := by
  refine ⟨S.below, fun j r hr => by simpa using S.dom j r hr, fun j o hj hd hl => ?_, fun a b oa ob ra rb hab ha hb ma mb hra hrb => ?_, S.defs, S.nodup, fun b o hb => ⟨(S.late b o hb).1, ?_⟩⟩
  · by_cases hij : i = j
    · subst hij
      cases ho : h.get i with
      | some x => rw [AH.get_set_same h _ x ho] at hj; cases hj; exact absurd rfl hd
      | none =>
        by_cases hlt : i < h.n
        · unfold AH.set at hj
          rw [if_pos hlt] at hj
          unfold AH.get at hj ho
          rw [if_pos hlt] at hj ho
          simp only at hj
          rw [List.getElem?_set] at hj
          rw [List.getElem?_eq_none_iff] at ho
          split at hj
          · split at hj
            · omega
            · cases hj
          · rename_i hne; exact absurd rfl hne
        · unfold AH.set at hj; rw [if_neg hlt] at hj; rw [ho] at hj; cases hj
    · rw [AH.get_set_other h _ hij] at hj
      exact S.obj j o hj hd hl
  · have g : ∀ (x : Nat) (o : AO), (h.set i .dead).get x = some o → mine o = true → h.get x = some o := by
      intro x o hx hm
      by_cases hix : i = x
      · subst hix
        cases ho : h.get i with
        | some y => rw [AH.get_set_same h _ y ho] at hx; cases hx; simp [mine] at hm
        | none =>
          exfalso
          by_cases hlt : i < h.n
          · unfold AH.set at hx
            rw [if_pos hlt] at hx
            unfold AH.get at hx ho
            rw [if_pos hlt] at hx ho
            simp only at hx
            rw [List.getElem?_set] at hx
            rw [List.getElem?_eq_none_iff] at ho
            split at hx
            · split at hx
              · omega
              · cases hx
            · rename_i hne; exact absurd rfl hne
          · unfold AH.set at hx; rw [if_neg hlt] at hx; rw [ho] at hx; cases hx
      · rwa [AH.get_set_other h _ hix] at hx
    exact S.sep a b oa ob ra rb hab (g a oa ha ma) (g b ob hb mb) ma mb hra hrb
  · by_cases hib : i = b
    · subst hib
      rcases (S.late i o hb).2 with h1 | h1 <;> exact .inr (AH.get_set_same h _ _ h1)
    · rw [AH.get_set_other h _ hib]
      exact (S.late b o hb).2

/-- An object of one's own turned, on either side, its kind kept; the block is another one's no more than before. -/
theorem Sim.turn (S : Sim G P w0 ρ D h w) {i : Nat} {o o1 : AO} {r : RB} {w1 : World} (hi : h.get i = some o) (hr : ρ i = some r) (hm : mine o = true) (hm1 : mine o1 = true) (hc : isC o1 = isC o)
    (hb : Below w0.heap.size w0 w1) (hsz : w1.heap.size = w.heap.size) (hother : ∀ k, k ≠ r.blk → w1.heap[k]? = w.heap[k]?)
    (hsame : ∀ j oj rj, j ≠ i → h.get j = some oj → mine oj = true → ρ j = some rj → rj.blk = r.blk → ObjR G P w0.heap.size ρ w rj oj → ObjR G P w0.heap.size ρ w1 rj oj)
    (ho : ObjR G P w0.heap.size ρ w1 r o1) : Sim G P w0 ρ D (h.set i o1) w1 := by
  have hob := S.objAt hr hi (by rintro rfl; simp [mine] at hm)
  obtain ⟨r0, hr0, hob⟩ := hob
  rw [hr] at hr0
  cases hr0
  have hge := hob.blk_ge hm
  refine ⟨hb, fun j q hq => by have := S.dom j q hq; simp; omega, fun j oj hj hd hl => ?_, fun a b oa ob ra rb hab ha hb' ma mb hra hrb => ?_, fun d hd => ?_, S.nodup, fun b ob hb => ?_⟩
  · by_cases hij : i = j
    · subst hij
      rw [AH.get_set_same h _ o hi] at hj
      cases hj
      exact ⟨r, hr, ho⟩
    · rw [AH.get_set_other h _ hij] at hj
      obtain ⟨q, hq, hobj⟩ := S.obj j oj hj hd hl
      refine ⟨q, hq, ?_⟩
      by_cases hqr : q.blk = r.blk
      · by_cases hmj : mine oj = true
        · exact hsame j oj q (Ne.symm hij) hj hmj hq hqr hobj
        · cases oj with
          | cells c e own =>
            have : own = false := by simpa [mine] using hmj
            have := (CellsR.ext hobj this).1
            omega
          | dead => exact absurd rfl hd
          | _ => simp [mine] at hmj
      · exact hobj.same (Ren.le_refl _) (hother _ hqr)
  · have g : ∀ (x : Nat) (ox : AO), (h.set i o1).get x = some ox → mine ox = true → ∃ oy, h.get x = some oy ∧ mine oy = true ∧ isC oy = isC ox := by
      intro x ox hx hmx
      by_cases hix : i = x
      · subst hix
        rw [AH.get_set_same h _ o hi] at hx
        cases hx
        exact ⟨o, hi, hm, hc.symm⟩
      · rw [AH.get_set_other h _ hix] at hx
        exact ⟨ox, hx, hmx, rfl⟩
    obtain ⟨oa', ha1, ha2, ha3⟩ := g a oa ha ma
    obtain ⟨ob', hb1, hb2, hb3⟩ := g b ob hb' mb
    rw [← ha3, ← hb3]
    exact S.sep a b oa' ob' ra rb hab ha1 hb1 ha2 hb2 hra hrb
  · obtain ⟨h1, h2⟩ := S.defs d hd
    refine ⟨h1, ?_⟩
    by_cases hdr : d = r.blk
    · obtain ⟨x, hx, _⟩ := hob.heap_some (by rintro rfl; simp [mine] at hm)
      rw [← hdr, h2] at hx
      cases hx
      exfalso
      cases o with
      | cells c e own => obtain ⟨c', e', fz, k1, _⟩ := CellsR.heap hob; rw [← hdr, h2] at k1; cases k1
      | map es clk => obtain ⟨_, es', k1, _⟩ := hob; rw [← hdr, h2] at k1; cases k1
      | iter s p => have := hob.2.2; rw [← hdr, h2] at this; cases this
      | loop st pd f ts ps as bd => obtain ⟨_, _, _, f', ts', d', k1, _⟩ := hob; rw [← hdr, h2] at k1; cases k1
      | dead => simp [mine] at hm
    · rw [hother _ hdr]; exact h2
  · have hne : i ≠ b := by
      rintro rfl
      exact S.notLate hr ⟨ob, hb⟩
    rw [AH.get_set_other h _ hne]
    exact S.late b ob hb

/-- An object that is no row of cells, turned. -/
theorem Sim.setObj (S : Sim G P w0 ρ D h w) {i : Nat} {o o1 : AO} {r : RB} {x : Obj} (hi : h.get i = some o) (hr : ρ i = some r) (hm : mine o = true) (hm1 : mine o1 = true) (hc : isC o = false) (hc1 : isC o1 = false)
    (ho : ObjR G P w0.heap.size ρ { w with heap := w.heap.setIfInBounds r.blk x } r o1) : Sim G P w0 ρ D (h.set i o1) { w with heap := w.heap.setIfInBounds r.blk x } := by
  obtain ⟨r0, hr0, hob⟩ := S.objAt hr hi (by rintro rfl; simp [mine] at hm)
  rw [hr] at hr0
  cases hr0
  have hge := hob.blk_ge hm
  have hother : ∀ k, k ≠ r.blk → (w.heap.setIfInBounds r.blk x)[k]? = w.heap[k]? := fun k hk => Array.getElem?_setIfInBounds_ne (Ne.symm hk)
  refine S.turn hi hr hm hm1 (by rw [hc, hc1]) ⟨S.below.os, S.below.tape, S.below.output, by simpa using S.below.size, fun k hk => ?_⟩ (by simp) hother ?_ ho
  · rw [hother k (by omega)]; exact S.below.block k hk
  · intro j oj rj hji hj hmj hrj heq hobj
    rcases S.sep j i oj o rj r hji hj hi hmj hm hrj hr with h1 | ⟨_, h2, _⟩
    · exact absurd heq h1
    · rw [hc] at h2; cases h2
end Go.Proofs.Ev
