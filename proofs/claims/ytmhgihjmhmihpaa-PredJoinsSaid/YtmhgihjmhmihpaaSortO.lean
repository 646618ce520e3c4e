/- 'slices.Sort' of numbers, of texts as an oracle of the evaluator: the kit's contracts of the library's functions, in the evaluator's memory. -/
import Derived.Test.YtmhgihjmhmihpaaEvB
import Derived.Shelf.Sort.Plain
import Derived.Shelf.Slices.In.SortNone
set_option linter.unusedVariables false
set_option linter.unusedSimpArgs false
namespace Go.Proofs.Ev
open Go Go.RowKit Go.Sort
variable {G : Code → Prop} {P : Program} {w0 : World} {ρ : Ren} {D : List Mk} {h : AH} {w w1 : World}
/-- Cells of a row of one's own, turned on both sides. -/
theorem rowSet_sim (S : Sim G P w0 ρ D h w) {b o : Nat} {cs vs : List Value} {e e' : TypeId} {r : RB} {c' c1 : Array Value} {fz : Nat × Nat} (hb : h.get b = some (.cells cs e true)) (hr : ρ b = some r) (ho : o + vs.length ≤ cs.length)
    (hos : w1.os = w.os) (htp : w1.tape = w.tape) (hout : w1.output = w.output) (hsz : w1.heap.size = w.heap.size) (hother : ∀ k, k ≠ r.blk → w1.heap[k]? = w.heap[k]?)
    (h1 : w.heap[r.blk]? = some (.cells c' e' fz)) (h2 : w1.heap[r.blk]? = some (.cells c1 e' fz)) (hc : c1.size = c'.size)
    (hin : ∀ (j : Nat) (v : Value), vs[j]? = some v → ∃ v', c1[r.base + o + j]? = some v' ∧ VR ρ v v') (hrest : ∀ k, ¬ (r.base + o ≤ k ∧ k < r.base + o + vs.length) → c1[k]? = c'[k]?) :
    Sim G P w0 ρ D (h.set b (.cells (splice cs o vs) e true)) w1 := by
  obtain ⟨r', hρ, hcc⟩ := S.cells hr hb
  rw [hr] at hρ
  cases hρ
  obtain ⟨c'', e'', fz'', g1, g2, g3, g4⟩ := hcc.heap
  rw [h1] at g1
  cases g1
  have hn := hcc.n
  have hle := hcc.le
  have hge := (hcc.mine rfl).1
  have hbel : Below w0.heap.size w0 w1 := ⟨hos.trans S.below.os, htp.trans S.below.tape, hout.trans S.below.output, by rw [hsz]; exact S.below.size, fun k hk => by rw [hother k (by omega)]; exact S.below.block k hk⟩
  refine S.turn hb hr rfl rfl rfl hbel hsz hother ?_ ?_
  · intro j oj rj hji hj hmj hrj heq hobj
    rcases S.sep j b oj _ rj r hji hj hb hmj rfl hrj hr with k1 | ⟨k1, _, k2⟩
    · exact absurd heq k1
    · cases oj with
      | cells cj ej ownj =>
        obtain ⟨cj', ej', fzj, q1, q2, q3, q4⟩ := CellsR.heap hobj
        rw [heq, h1] at q1
        cases q1
        refine ⟨CellsR.n hobj, CellsR.le hobj, ⟨_, _, _, by rw [heq]; exact h2, by rw [hc]; exact q2, fun k x hx => ?_, by rw [hc]; exact q4⟩, CellsR.mine hobj, CellsR.ext hobj⟩
        obtain ⟨x', y1, y2⟩ := q3 k x hx
        refine ⟨x', ?_, y2⟩
        have hk : k < cj.length := (List.getElem?_eq_some_iff.1 hx).1
        have hnj := CellsR.n hobj
        have hlj := CellsR.le hobj
        rw [hrest _ (by omega)]
        exact y1
      | _ => simp [isC] at k1
  · have hlen : (splice cs o vs).length = cs.length := by unfold splice; simp; omega
    refine ⟨by rw [hlen]; exact hn, hle, ⟨_, _, _, h2, by rw [hc]; exact g2, fun k x hx => ?_, by rw [hc]; exact g4⟩, hcc.mine, hcc.ext⟩
    have hsp : splice cs o vs = cs.take o ++ (vs ++ cs.drop (o + vs.length)) := by unfold splice; rw [List.append_assoc]
    rw [hsp] at hx
    have hto : (cs.take o).length = o := by simp; omega
    by_cases q1 : k < o
    · rw [List.getElem?_append_left (by omega), List.getElem?_take_of_lt q1] at hx
      obtain ⟨x', y1, y2⟩ := g3 k x hx
      exact ⟨x', by rw [hrest _ (by omega)]; exact y1, y2⟩
    · rw [List.getElem?_append_right (by omega), hto] at hx
      by_cases q2 : k - o < vs.length
      · rw [List.getElem?_append_left q2] at hx
        obtain ⟨v', y1, y2⟩ := hin (k - o) x hx
        exact ⟨v', by rw [show r.base + k = r.base + o + (k - o) by omega]; exact y1, y2⟩
      · rw [List.getElem?_append_right (by omega), List.getElem?_drop] at hx
        rw [show o + vs.length + (k - o - vs.length) = k by omega] at hx
        obtain ⟨x', y1, y2⟩ := g3 k x hx
        exact ⟨x', by rw [hrest _ (by omega)]; exact y1, y2⟩
def intsOf : List Value → Option (List Int)
  | [] => some []
  | .int .i64 n :: l => (intsOf l).map (n :: ·)
  | _ => none
theorem intsOf_eq : ∀ {l : List Value} {zs : List Int}, intsOf l = some zs → l = zs.map (.int .i64)
  | [], zs, h => by simp [intsOf] at h; subst h; rfl
  | v :: l, zs, h => by
    unfold intsOf at h
    split at h
    · rename_i h1; cases h1
    · rename_i n l' h1
      cases h1
      obtain ⟨ys, h2, rfl⟩ := Option.map_eq_some_iff.1 h
      rw [intsOf_eq h2]
      rfl
    · cases h
theorem intsOf_map (zs : List Int) : intsOf (zs.map (.int .i64)) = some zs := by
  induction zs with
  | nil => rfl
  | cons z zs ih => simp [intsOf, ih]
def sortedI (zs : List Int) : List Int := zs.mergeSort fun x y => decide (x ≤ y)
def sortI (args : Array Value) (h : AH) : Option (Value × AH) := match args.toList with
  | [.slice none 0 _] => some (.tuple #[], h)
  | [.slice (some ⟨b, o, none⟩) n _] => if n = 0 then some (.tuple #[], h) else match h.get b with
    | some (.cells cs e true) => if o + n ≤ cs.length ∧ n ≤ 1099511627776 then (intsOf ((cs.drop o).take n)).map fun zs => (.tuple #[], h.set b (.cells (splice cs o ((sortedI zs).map (.int .i64))) e true)) else none
    | _ => none
  | _ => none
theorem grow_later (S : Sim G P w0 ρ D h w) (os : Array Obj) : Sim G P w0 ρ D h (grow w os) :=
  S.later ⟨rfl, rfl, rfl, by simp [grow], fun k hk => by simp [grow, Array.getElem?_append, hk]⟩
theorem VR.int_inv {k : IntKind} {n : Int} {v : Value} (hv : VR ρ (.int k n) v) : v = .int k n := by cases hv; rfl
theorem sortI_sim {f : FuncId} (H : ∀ (blk off cap : Nat) (zs : List Int) (w : World), Holds (Value.int .i64) w blk off zs.toArray → blk < w.heap.size → zs.length < 4611686018427387904 →
      Calls P f #[.slice (some ⟨blk, off, none⟩) zs.length cap] w fun e w' => e = .returned (.tuple #[]) ∧ ∃ n os, w' = grow (putRow (Value.int .i64) (Sort.ahead w n) blk off (zs.mergeSort fun x y => decide (x ≤ y)).toArray) os)
    (H0 : ∀ (p : Option Addr) (cap : Nat) (w : World), Calls P f #[.slice p 0 cap] w fun e w' => e = .returned (.tuple #[]) ∧ w' = w)
    {args : Array Value} {v : Value} {h2 : AH} (hg : sortI args h = some (v, h2)) {args' : Array Value} (S : Sim G P w0 ρ D h w) (ha : AsR ρ args args') : CallsIn Fence.wide 0 P f args' w (CallPost G P w0 ρ D v h2) := by
  unfold sortI at hg
  split at hg
  · rename_i c hl
    cases hg
    have e1 : args = #[.slice none 0 c] := Array.toList_inj.1 hl
    subst e1
    obtain ⟨v', rfl⟩ : ∃ v', args' = #[v'] := by
      obtain ⟨l⟩ := args'
      have := ha.1
      match l with
      | [x] => exact ⟨x, rfl⟩
      | [] => simp at this
      | _ :: _ :: _ => simp at this
    have hv := ha.2 0 _ v' rfl rfl
    cases hv
    exact (callsIn_wide.2 (H0 none c w)).mono fun e w' ⟨h1, h2⟩ => by subst h1 h2; exact ⟨ρ, _, rfl, Ren.le_refl _, .unk _, S⟩
  · rename_i b o n c hl
    have e1 : args = #[.slice (some ⟨b, o, none⟩) n c] := Array.toList_inj.1 hl
    subst e1
    obtain ⟨v', rfl⟩ : ∃ v', args' = #[v'] := by
      obtain ⟨l⟩ := args'
      have := ha.1
      match l with
      | [x] => exact ⟨x, rfl⟩
      | [] => simp at this
      | _ :: _ :: _ => simp at this
    have hv := ha.2 0 _ v' rfl rfl
    split at hg
    · rename_i hn
      subst hn
      cases hg
      have : ∃ p c', v' = .slice p 0 c' := by
        cases hv with
        | slice0 a a' => exact ⟨_, _, rfl⟩
        | slice a a' n c c' r h1 h2 h3 => exact ⟨_, _, rfl⟩
      obtain ⟨p, c', rfl⟩ := this
      exact (callsIn_wide.2 (H0 p c' w)).mono fun e w' ⟨h1, h2⟩ => by subst h1 h2; exact ⟨ρ, _, rfl, Ren.le_refl _, .unk _, S⟩
    · rename_i hn
      split at hg
      case h_2 => cases hg
      rename_i cs e hb
      split at hg
      case isFalse => cases hg
      rename_i hfit
      obtain ⟨zs, hz, he⟩ := Option.map_eq_some_iff.1 hg
      cases he
      have hcs := intsOf_eq hz
      have hzl : zs.length = n := by
        have := congrArg List.length hcs
        simp at this
        omega
      cases hv with
      | slice0 a a' => exact absurd rfl hn
      | slice a a' n c c' r h1 h2 h3 =>
        obtain ⟨hs0, r', hr', ha'⟩ := h1
        simp only at h2 hr'
        rw [h2] at hr'
        cases hr'
        subst ha'
        obtain ⟨r'', hρ, hcc⟩ := S.cells h2 hb
        rw [h2] at hρ
        cases hρ
        obtain ⟨c'', e'', fz, g1, g2, g3, g4⟩ := hcc.heap
        have hn2 := hcc.n
        have hle := hcc.le
        have cellAt : ∀ j, j < n → ∃ z, zs[j]? = some z ∧ c''[r.base + o + j]? = some (.int .i64 z) := fun j hj => by
          obtain ⟨z, hz'⟩ : ∃ z, zs[j]? = some z := ⟨_, List.getElem?_eq_getElem (by omega)⟩
          have h5 : cs[o + j]? = some (.int .i64 z) := by
            have h6 : ((cs.drop o).take n)[j]? = some (.int .i64 z) := by rw [hcs]; simp [hz']
            rw [List.getElem?_take_of_lt hj, List.getElem?_drop] at h6
            exact h6
          obtain ⟨x', y1, y2⟩ := g3 _ _ h5
          rw [y2.int_inv] at y1
          exact ⟨z, hz', by rw [show r.base + o + j = r.base + (o + j) by omega]; exact y1⟩
        have hblk : r.blk < w.heap.size := (Array.getElem?_eq_some_iff.1 g1).1
        have hfz := g4 rfl
        have hH : Holds (Value.int .i64) w r.blk (r.base + o) zs.toArray := fun j hj => by
          have hj' : j < n := by simpa [hzl] using hj
          obtain ⟨z, hz1, hz2⟩ := cellAt j hj'
          have hlt : r.base + o + j < c''.size := (Array.getElem?_eq_some_iff.1 hz2).1
          constructor
          · unfold World.cell?
            simp only [g1, Option.isSome_none, Bool.false_eq_true, if_false]
            rw [hz2]
            have : zs.toArray[j]! = z := by
              rw [getElem!_pos _ j hj]
              have := (List.getElem?_eq_some_iff.1 hz1).2
              simpa using this
            rw [this]
          · unfold World.frozen?
            simp only [g1]
            have : ¬ (fz.1 ≤ r.base + o + j ∧ r.base + o + j < fz.2) := by omega
            simpa using this
        have hcall := H r.blk (r.base + o) c' zs w hH hblk (by omega)
        rw [hzl] at hcall
        refine (callsIn_wide.2 hcall).mono fun e1 w' hq => ?_
        obtain ⟨rfl, m, os, rfl⟩ := hq
        refine ⟨ρ, _, rfl, Ren.le_refl _, .unk _, grow_later ?_ os⟩
        have S1 : Sim G P w0 ρ D h (Sort.ahead w m) := S.drawn _
        have hsl : ((sortedI zs).map (Value.int .i64)).length = n := by unfold sortedI; rw [List.length_map, List.length_mergeSort, hzl]
        have hblkh : (putRow (Value.int .i64) (Sort.ahead w m) r.blk (r.base + o) (sortedI zs).toArray).heap[r.blk]? = some (.cells (putCells (Value.int .i64) (r.base + o) (sortedI zs).toArray c'') e'' fz) := by
          unfold putRow mapBlock Sort.ahead
          simp [Array.getElem?_modify, g1, onCells]
        refine rowSet_sim S1 hb h2 (by rw [hsl]; exact hfit.1) rfl rfl rfl (by simp [putRow, mapBlock]) (fun k hk => ?_) g1 hblkh (by simp [putCells]) (fun j x hx => ?_) fun k hk => ?_
        · unfold putRow mapBlock
          simp [Array.getElem?_modify, Ne.symm hk]
        · have hj : j < n := by rw [← hsl]; exact (List.getElem?_eq_some_iff.1 hx).1
          obtain ⟨z, hz1, hz2⟩ := cellAt j hj
          have hlt : r.base + o + j < c''.size := (Array.getElem?_eq_some_iff.1 hz2).1
          rw [List.getElem?_map, Option.map_eq_some_iff] at hx
          obtain ⟨y, hy, rfl⟩ := hx
          refine ⟨.int .i64 y, ?_, .int _ _⟩
          unfold putCells
          have hsz : (sortedI zs).toArray.size = n := by rw [List.size_toArray]; rw [List.length_map] at hsl; exact hsl
          have hjs : j < (sortedI zs).toArray.size := by omega
          rw [Array.getElem?_mapIdx, hz2, Option.map_some, if_pos ⟨by omega, by omega⟩, show r.base + o + j - (r.base + o) = j by omega, getElem!_pos _ j hjs]
          have := (List.getElem?_eq_some_iff.1 hy).2
          simp [this]
        · rw [hsl] at hk
          have hsz : (sortedI zs).toArray.size = n := by rw [List.size_toArray]; rw [List.length_map] at hsl; exact hsl
          unfold putCells
          rw [Array.getElem?_mapIdx]
          cases hck : c''[k]? with
          | none => rfl
          | some y => rw [Option.map_some, if_neg (by omega)]
  · cases hg
/-- The setting, with the library's sort of numbers as an oracle. -/
def sortE (E : Env) (f : FuncId) : Env := { E with O := fun g => if g = f then some sortI else E.O g }
theorem sortE_ok {E : Env} {f : FuncId} (hE : EnvOK E) (hb : ∃ fn c, E.P.funcs[f]? = some fn ∧ fn.body = some c ∧ (fn.name == "runtime.NumGoroutine") = false)
    (H : ∀ (blk off cap : Nat) (zs : List Int) (w : World), Holds (Value.int .i64) w blk off zs.toArray → blk < w.heap.size → zs.length < 4611686018427387904 →
      Calls E.P f #[.slice (some ⟨blk, off, none⟩) zs.length cap] w fun e w' => e = .returned (.tuple #[]) ∧ ∃ n os, w' = grow (putRow (Value.int .i64) (Sort.ahead w n) blk off (zs.mergeSort fun x y => decide (x ≤ y)).toArray) os)
    (H0 : ∀ (p : Option Addr) (cap : Nat) (w : World), Calls E.P f #[.slice p 0 cap] w fun e w' => e = .returned (.tuple #[]) ∧ w' = w) : EnvOK (sortE E f) := by
  refine ⟨hE.mix, hE.code, fun g o hg => ?_, hE.ext⟩
  simp only [sortE] at hg
  split at hg
  · rename_i h1
    subst h1
    cases hg
    exact ⟨hb, fun args h v h2 hv w0 ρ D w args' S ha => sortI_sim H H0 hv S ha⟩
  · exact hE.orac g o hg
end Go.Proofs.Ev
