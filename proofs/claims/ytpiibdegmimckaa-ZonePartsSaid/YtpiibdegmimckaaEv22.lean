/- The memory of a call's arguments: the world as it lies, each block of cells another one's. -/
import Derived.Test.YtpiibdegmimckaaEv21
set_option linter.unusedVariables false
set_option linter.unusedSimpArgs false
namespace Go.Proofs.Ev
open Go Go.RowKit
variable {G : Code → Prop} {P : Program}

def tameAddr (n : Nat) (a : Addr) : Bool := a.spot.isNone && decide (a.block < n)
def tame (n : Nat) : Nat → Value → Value
  | 0, _ => unk
  | d + 1, v => match v with
    | .bool b => .bool b
    | .int k i => .int k i
    | .float k b => .float k b
    | .string s => .string s
    | .pointer none => .pointer none
    | .pointer (some a) => if tameAddr n a then .pointer (some a) else unk
    | .slice none m c => .slice none m c
    | .slice (some a) m c => if tameAddr n a then .slice (some a) m c else unk
    | .map none => .map none
    | .nilFunc => .nilFunc
    | .nilIface => .nilIface
    | .iface t v => .iface t (tame n d v)
    | .agg vs => .agg (vs.map (tame n d))
    | _ => unk
def idRen (W : World) : Ren := fun i => match W.heap[i]? with
  | some (.cells c _ _) => some ⟨i, 0, c.size, c.size, 0⟩
  | some _ => some ⟨i, 0, 0, 0, 0⟩
  | none => none
theorem tame_VR (W : World) : ∀ (d : Nat) (v : Value), VR (idRen W) (tame W.heap.size d v) v := by
  have key : ∀ a : Addr, tameAddr W.heap.size a = true → ∃ r, idRen W a.block = some r ∧ r.blk = a.block ∧ r.base = 0 ∧ a.spot = none := by
    intro a ha
    simp only [tameAddr, Bool.and_eq_true, Option.isNone_iff_eq_none, decide_eq_true_eq] at ha
    obtain ⟨o, ho⟩ : ∃ o, W.heap[a.block]? = some o := ⟨_, Array.getElem?_eq_getElem ha.2⟩
    cases o <;> exact ⟨_, by unfold idRen; rw [ho], rfl, rfl, ha.1⟩
  have keyR : ∀ a : Addr, tameAddr W.heap.size a = true → ∃ r, idRen W a.block = some r ∧ AddrR (idRen W) a a := by
    intro a ha
    obtain ⟨r, h1, h2, h3, h4⟩ := key a ha
    refine ⟨r, h1, h4, r, h1, ?_⟩
    obtain ⟨b, o, s⟩ := a
    simp only at h2 h3 h4
    subst h4
    simp [h2, h3]
  intro d
  induction d with
  | zero => intro v; exact .unk _
  | succ d ih =>
    intro v
    unfold tame
    split
    · exact .bool _
    · exact .int _ _
    · exact .float _ _
    · exact .string _
    · exact .nilPtr
    · split
      · rename_i a ha
        obtain ⟨r, h1, h2⟩ := keyR a ha
        exact .ptr _ _ h2
      · exact .unk _
    · exact .nilSlice _ _
    · split
      · rename_i a m c ha
        obtain ⟨r, h1, h2⟩ := keyR a ha
        exact .slice _ _ _ _ _ r h2 h1 (.inl rfl)
      · exact .unk _
    · exact .nilMap
    · exact .nilFunc
    · exact .nilIface
    · exact .iface _ _ _ (ih _)
    · rename_i vs
      refine .agg _ _ (by simp) fun i x y h1 h2 => ?_
      simp only [Array.getElem?_map, Option.map_eq_some_iff] at h1
      obtain ⟨z, hz, rfl⟩ := h1
      rw [hz] at h2
      cases h2
      exact ih _
    · exact .unk _
def toAO (n : Nat) : Obj → AO
  | .cells c e _ => .cells (c.toList.map (tame n 8)) e false
  | _ => .dead
/-- The memory that a call finds. -/
def extHeap (W : World) : AH := ⟨W.heap.size, (W.heap.toList.map (toAO W.heap.size)).reverse⟩
theorem extHeap_get (W : World) (i : Nat) : (extHeap W).get i = (W.heap[i]?).map (toAO W.heap.size) := by
  unfold AH.get extHeap
  simp only
  by_cases h : i < W.heap.size
  · rw [if_pos h, List.getElem?_reverse (by simp; omega)]
    simp only [List.length_map, Array.length_toList, List.getElem?_map, Array.getElem?_toList]
    rw [show W.heap.size - 1 - (W.heap.size - 1 - i) = i by omega]
  · rw [if_neg h]
    rw [Array.getElem?_eq_none (by omega)]
    rfl
theorem ext_sim (W : World) : Sim G P W (idRen W) [] (extHeap W) W := by
  have hid : ∀ i r, idRen W i = some r → i < W.heap.size ∧ r.blk = i := by
    intro i r hr
    unfold idRen at hr
    split at hr
    · rename_i hh; cases hr; exact ⟨(Array.getElem?_eq_some_iff.1 hh).1, rfl⟩
    · rename_i hh; cases hr; exact ⟨(Array.getElem?_eq_some_iff.1 hh).1, rfl⟩
    · cases hr
  have hget : ∀ i o, (extHeap W).get i = some o → o ≠ .dead → ∃ c e fz, W.heap[i]? = some (.cells c e fz) ∧ o = .cells (c.toList.map (tame W.heap.size 8)) e false := by
    intro i o ho hd
    rw [extHeap_get] at ho
    cases hw : W.heap[i]? with
    | none => rw [hw] at ho; cases ho
    | some x =>
      rw [hw] at ho
      simp only [Option.map_some, Option.some.injEq] at ho
      subst ho
      cases x with
      | cells c e fz => exact ⟨c, e, fz, rfl, rfl⟩
      | _ => exact absurd rfl hd
  refine ⟨Below.refl _ _, fun i r hr => ?_, fun i o ho hd _ => ?_, fun i j oi oj ri rj _ hi _ mi => ?_, fun d hd => (by cases hd), List.nodup_nil, fun b o hb => (by cases hb)⟩
  · obtain ⟨h1, h2⟩ := hid i r hr
    exact ⟨h1, by rw [h2]; exact h1⟩
  · obtain ⟨c, e, fz, hw, rfl⟩ := hget i o ho hd
    refine ⟨⟨i, 0, c.size, c.size, 0⟩, by unfold idRen; rw [hw], by simp, Nat.le_refl _, ⟨c, e, fz, hw, by simp, fun k v hk => ?_, fun h => (by cases h)⟩, fun h => (by cases h), fun _ => ⟨(Array.getElem?_eq_some_iff.1 hw).1, rfl⟩⟩
    simp only [List.getElem?_map, Option.map_eq_some_iff, Array.getElem?_toList] at hk
    obtain ⟨v', h1, rfl⟩ := hk
    exact ⟨v', by simpa using h1, tame_VR W 8 v'⟩
  · exfalso
    by_cases hd : oi = .dead
    · subst hd; simp [mine] at mi
    · obtain ⟨c, e, fz, _, rfl⟩ := hget i oi hi hd
      simp [mine] at mi
/-- A law, told true by the evaluator at its arguments in the world as it lies. -/
theorem lawA {E : Env} (hE : EnvOK E) {k : Nat} {f : FuncId} {args : Array Value} {W : World} (he : tellsTrue (eFun E k (eInv E k) f (args.map (tame W.heap.size 8)) (extHeap W)) = true) :
    Calls E.P f args W fun e w' => e = .returned (.bool true) ∧ Below W.heap.size W w' := by
  unfold tellsTrue at he
  split at he
  · rename_i b h2 h1
    subst he
    refine callsIn_wide.1 ((calls_sim hE h1 (ext_sim (G := GC E.P) (P := E.P) W) (args' := args) ⟨by simp, fun i v v' q1 q2 => ?_⟩).mono fun e w' hq => ?_)
    · simp only [Array.getElem?_map, Option.map_eq_some_iff] at q1
      obtain ⟨z, hz, rfl⟩ := q1
      rw [hz] at q2
      cases q2
      exact tame_VR W 8 _
    · obtain ⟨ρ', v', rfl, _, hv, hs⟩ := hq
      cases hv
      exact ⟨rfl, hs.below⟩
  · cases he
end Go.Proofs.Ev
