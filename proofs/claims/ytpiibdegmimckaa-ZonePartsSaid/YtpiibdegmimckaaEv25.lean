/- Local memory in a shallow function: which blocks are known, step by step. -/
import Derived.Test.YtpiibdegmimckaaEv24
set_option linter.unusedVariables false
set_option linter.unusedSimpArgs false
namespace Go.Proofs.Ev
open Go Go.RowKit
variable {α β : Type} {P : Program}

def Mem (h : AH) : List (Nat × AO) → Prop
  | [] => True
  | p :: L => h.get p.1 = some p.2 ∧ Mem h L
theorem Mem.at_ {h : AH} : ∀ {L : List (Nat × AO)} {i : Nat} {p : Nat × AO}, Mem h L → L[i]? = some p → h.get p.1 = some p.2
  | [], _, _, _, hi => by simp at hi
  | q :: L, 0, p, m, hi => by simp at hi; subst hi; exact m.1
  | q :: L, i + 1, p, m, hi => Mem.at_ m.2 (by simpa using hi)
theorem Mem.keep {h h' : AH} : ∀ {L : List (Nat × AO)}, Mem h L → (∀ p ∈ L, h'.get p.1 = h.get p.1) → Mem h' L
  | [], _, _ => trivial
  | q :: L, m, hk => ⟨(hk q (by simp)).trans m.1, Mem.keep m.2 fun p hp => hk p (by simp [hp])⟩
theorem Mem.lt {h : AH} : ∀ {L : List (Nat × AO)}, Mem h L → ∀ p ∈ L, p.1 < h.n
  | [], _, _, hp => by cases hp
  | q :: L, m, p, hp => by
    rcases List.mem_cons.1 hp with rfl | hp
    · exact AH.get_lt m.1
    · exact Mem.lt m.2 p hp
/-- The state in a function: below 'n0' nothing has turned; these blocks of its own are known. -/
structure Sta (n0 : Nat) (h0 h : AH) (L : List (Nat × AO)) : Prop where
  grow : GrowFrom n0 h0 h
  base : n0 ≤ h0.n
  mem : Mem h L
  new : ∀ p ∈ L, n0 ≤ p.1
  nodup : (L.map (·.1)).Nodup
theorem Sta.init (h : AH) : Sta h.n h h [] := ⟨GrowFrom.refl _ _, Nat.le_refl _, trivial, fun p hp => (by cases hp), by simp⟩
theorem Sta.size {n0 : Nat} {h0 h : AH} {L : List (Nat × AO)} (S : Sta n0 h0 h L) : n0 ≤ h.n := Nat.le_trans S.base S.grow.1
theorem Sta.done {h0 h : AH} {L : List (Nat × AO)} (S : Sta h0.n h0 h L) : Grow h0 h := S.grow
theorem Sta.alloc {n0 : Nat} {h0 h : AH} {L : List (Nat × AO)} (S : Sta n0 h0 h L) (o : AO) : Sta n0 h0 (h.alloc o) ((h.n, o) :: L) := by
  refine ⟨S.grow.trans ((Grow.alloc h o).from S.size), S.base, ⟨AH.get_alloc_new h o, S.mem.keep fun p hp => AH.get_alloc_old h o (S.mem.lt p hp)⟩, fun p hp => ?_, ?_⟩
  · rcases List.mem_cons.1 hp with rfl | hp
    · exact S.size
    · exact S.new p hp
  · rw [List.map_cons, List.nodup_cons]
    refine ⟨fun hc => ?_, S.nodup⟩
    obtain ⟨p, hp, he⟩ := List.mem_map.1 hc
    have := S.mem.lt p hp
    omega
theorem Sta.call {n0 : Nat} {h0 h h' : AH} {L : List (Nat × AO)} (S : Sta n0 h0 h L) (g : Grow h h') : Sta n0 h0 h' L :=
  ⟨S.grow.trans (g.from S.size), S.base, S.mem.keep fun p hp => g.2 _ (S.mem.lt p hp), S.new, S.nodup⟩
theorem Mem.set {h : AH} {i : Nat} {b : Nat} {o' : AO} : ∀ {L : List (Nat × AO)} {j : Nat} {o : AO}, Mem h L → (L.map (·.1)).Nodup → L[j]? = some (b, o) → Mem (h.set b o') (L.set j (b, o'))
  | [], _, _, _, _, hi => by simp at hi
  | q :: L, 0, o, m, nd, hi => by
    simp at hi
    subst hi
    rw [List.map_cons, List.nodup_cons] at nd
    refine ⟨AH.get_set_same h o' o m.1, Mem.keep m.2 fun p hp => AH.get_set_other h o' ?_⟩
    rintro rfl
    exact nd.1 (List.mem_map.2 ⟨p, hp, rfl⟩)
  | q :: L, j + 1, o, m, nd, hi => by
    rw [List.map_cons, List.nodup_cons] at nd
    have hi' : L[j]? = some (b, o) := by simpa using hi
    refine ⟨(AH.get_set_other h o' ?_).trans m.1, Mem.set (i := i) m.2 nd.2 hi'⟩
    rintro rfl
    exact nd.1 (List.mem_map.2 ⟨_, List.mem_of_getElem? hi', rfl⟩)
theorem Sta.set {n0 : Nat} {h0 h : AH} {L : List (Nat × AO)} (S : Sta n0 h0 h L) (i : Nat) {b : Nat} {o : AO} (hi : L[i]? = some (b, o)) (o' : AO) : Sta n0 h0 (h.set b o') (L.set i (b, o')) := by
  have hm : (b, o) ∈ L := List.mem_of_getElem? hi
  refine ⟨S.grow.trans (GrowFrom.set h o' (S.new _ hm)), S.base, Mem.set (i := i) S.mem S.nodup hi, fun p hp => ?_, ?_⟩
  · rcases List.mem_or_eq_of_mem_set hp with hp | rfl
    · exact S.new p hp
    · exact (S.new (b, o) hm : n0 ≤ b)
  · rw [List.map_set]
    have : (L.map (·.1)).set i b = L.map (·.1) := by
      refine List.ext_getElem? fun k => ?_
      rw [List.getElem?_set]
      split
      · rename_i hk
        subst hk
        have hlt : i < L.length := (List.getElem?_eq_some_iff.1 hi).1
        simp [hlt, List.getElem?_map, hi]
        have := (List.getElem?_eq_some_iff.1 hi).2
        rw [this]
      · rfl
    simpa [this] using S.nodup
/-- What is not known any more. -/
theorem Sta.drop {n0 : Nat} {h0 h : AH} {L : List (Nat × AO)} {p : Nat × AO} (S : Sta n0 h0 h (p :: L)) : Sta n0 h0 h L :=
  ⟨S.grow, S.base, S.mem.2, fun q hq => S.new q (by simp [hq]), (List.nodup_cons.1 (by simpa using S.nodup)).2⟩
section
variable {n0 : Nat} {h0 h : AH} {L : List (Nat × AO)} {t : TypeId} {Q : β → Prop}
theorem Tl.box {v : Value} {K : Value × AH → Option β} (S : Sta n0 h0 h L) (hk : kn v = true) (hs : (szT P t).isSome = true) (hn : ∀ b h', Sta n0 h0 h' ((b, .cells v.cells.toList t true) :: L) → Grow h h' → Tl (K (.pointer (some ⟨b, 0, none⟩), h')) Q) :
    Tl (Ev.bnd (pBox P t v h) K) Q := by
  unfold pBox
  rw [hk, hs]
  exact hn _ _ (S.alloc _) (Grow.alloc _ _)
theorem Tl.alloc {z : Value} {K : Value × AH → Option β} (S : Sta n0 h0 h L) (hz : zeroT P t = some z) (hp : plain z = true) (hn : ∀ b h', Sta n0 h0 h' ((b, .cells z.cells.toList t true) :: L) → Grow h h' → Tl (K (.pointer (some ⟨b, 0, none⟩), h')) Q) :
    Tl (Ev.bnd (pAlloc P t h) K) Q := by
  unfold pAlloc
  rw [hz]
  simp only
  rw [if_pos hp]
  exact hn _ _ (S.alloc _) (Grow.alloc _ _)
theorem Tl.store {x : Value} {K : Value × AH → Option β} {o b n : Nat} {vs : List Value} {e : TypeId} (S : Sta n0 h0 h L) (i : Nat) (hi : L[i]? = some (b, .cells vs e true)) (hs : szT P t = some n) (hn : x.cells.size = n) (hx : x.cells.toList.all oneCell = true)
    (hl : o + n ≤ vs.length) (hk : ∀ h', Sta n0 h0 h' (L.set i (b, .cells (splice vs o x.cells.toList) e true)) → Tl (K (unk, h')) Q) :
    Tl (Ev.bnd (kSt (pStore P t (.pointer (some ⟨b, o, none⟩)) x h)) K) Q := by
  unfold pStore
  simp only
  rw [hs, hx, ← hn]
  simp only [Bool.true_and, beq_self_eq_true, if_true]
  have hg : h.get b = some (.cells vs e true) := S.mem.at_ hi
  unfold AH.put
  rw [hg]
  simp only
  rw [if_pos (by rw [Array.length_toList, hn]; exact hl)]
  exact hk _ (S.set i hi _)
theorem Tl.call {v : Value} {o : Option (Value × AH)} {K : Value × AH → Option β} (S : Sta n0 h0 h L) (C : Tl o fun r => r.1 = v ∧ Grow h r.2) (hk : ∀ h', Sta n0 h0 h' L → Grow h h' → Tl (K (v, h')) Q) : Tl (Ev.bnd o K) Q := by
  obtain ⟨⟨v', h'⟩, rfl, rfl, g⟩ := C
  exact hk h' (S.call g) g
theorem Tl.bool {c : Bool} {o : Option Value} {K : Value → Option β} (ho : o = some (.bool c)) (ht : c = true → Tl (K (.bool true)) Q) (hf : c = false → Tl (K (.bool false)) Q) : Tl (Ev.bnd o K) Q := by
  subst ho
  cases c
  · exact hf rfl
  · exact ht rfl
theorem Tl.val {v : α} {o : Option α} {K : α → Option β} (ho : o = some v) (hk : Tl (K v) Q) : Tl (Ev.bnd o K) Q := by
  subst ho
  exact hk
end
theorem Tl.gd_on {c : Bool} {h : AH} {s : Option (Value × AH)} {K : Value × AH → Option β} {Q : β → Prop} (hk : Tl (Ev.bnd s K) Q) : Tl (Ev.bnd (gd (some (.bool c)) c h s) K) Q := by
  cases c <;> exact hk
theorem Tl.gd3_on {c : Bool} {h : AH} {s : Option (Value × AH)} {K : Value × AH × Bool → Option β} {Q : β → Prop} (hk : Tl (Ev.bnd s fun p => K (p.1, p.2, true)) Q) : Tl (Ev.bnd (gd3 (some (.bool c)) c h s) K) Q := by
  cases s <;> cases c <;> exact hk
theorem Tl.brT {t e : Option β} {Q : β → Prop} (h : Tl t Q) : Tl (brV (.bool true) t e) Q := h
theorem Tl.brF {t e : Option β} {Q : β → Prop} (h : Tl e Q) : Tl (brV (.bool false) t e) Q := h
theorem Tl.chk {c : Bool} {x : Option β} {Q : β → Prop} (hc : c = true) (h : Tl x Q) : Tl (chkK c x) Q := by subst hc; exact h
/-- Loads of known blocks. -/
theorem cell_of {h : AH} {b o : Nat} {vs : List Value} {e : TypeId} {own : Bool} (hg : h.get b = some (.cells vs e own)) : h.cell b o = vs[o]? := by
  unfold AH.cell
  rw [hg]
theorem row_of {h : AH} {b o n : Nat} {vs : List Value} {e : TypeId} {own : Bool} (hg : h.get b = some (.cells vs e own)) : h.row b o n = if o + n ≤ vs.length then some ((vs.drop o).take n) else none := by
  unfold AH.row
  rw [hg]
theorem gd_tt {h : AH} {s : Option (Value × AH)} : gd (some (.bool true)) true h s = s := rfl
theorem gd_ff {h : AH} {s : Option (Value × AH)} : gd (some (.bool false)) false h s = s := rfl
theorem gd_tf {h : AH} {s : Option (Value × AH)} : gd (some (.bool true)) false h s = some (skipped, h) := rfl
theorem gd_ft {h : AH} {s : Option (Value × AH)} : gd (some (.bool false)) true h s = some (skipped, h) := rfl
theorem gd_sk {h : AH} {w : Bool} {s : Option (Value × AH)} : gd (some skipped) w h s = some (skipped, h) := rfl
theorem gd3_tt {h : AH} {s : Option (Value × AH)} : gd3 (some (.bool true)) true h s = s.map fun p => (p.1, p.2, true) := by unfold gd3; cases s <;> rfl
theorem gd3_ff {h : AH} {s : Option (Value × AH)} : gd3 (some (.bool false)) false h s = s.map fun p => (p.1, p.2, true) := by unfold gd3; cases s <;> rfl
theorem gd3_tf {h : AH} {s : Option (Value × AH)} : gd3 (some (.bool true)) false h s = some (skipped, h, false) := rfl
theorem gd3_ft {h : AH} {s : Option (Value × AH)} : gd3 (some (.bool false)) true h s = some (skipped, h, false) := rfl
theorem gd3_sk {h : AH} {w : Bool} {s : Option (Value × AH)} : gd3 (some skipped) w h s = some (skipped, h, false) := rfl
theorem pick_t {u v : Value} : pickV (.bool true) u v = some u := rfl
theorem pick_f {u v : Value} : pickV (.bool false) u v = some v := rfl
theorem lt_some {v : Value} {h : AH} : lt (some v) h = some (v, h) := rfl
theorem bnd_map {γ : Type} (o : Option α) (f : α → γ) (K : γ → Option β) : bnd (o.map f) K = bnd o fun x => K (f x) := by cases o <;> rfl
theorem chkK_t {x : Option β} : chkK true x = x := rfl
theorem sameO_some {u v : Value} : sameO (some u) v = sameV u v := rfl
theorem sameV_int {k : IntKind} {a : Int} : sameV (.int k a) (.int k a) = true := by simp [sameV, same0]
theorem beqB (s : ByteArray) : (s == s) = true := by
  first | exact beq_self_eq_true s | (obtain ⟨⟨l⟩⟩ := s; first | exact beq_self_eq_true (α := Array UInt8) _ | exact decide_eq_true rfl | simp [BEq.beq])
theorem sameV_string {s : ByteArray} : sameV (.string s) (.string s) = true := beqB s
theorem sameV_bool {b : Bool} : sameV (.bool b) (.bool b) = true := by simp [sameV, same0]
end Go.Proofs.Ev
