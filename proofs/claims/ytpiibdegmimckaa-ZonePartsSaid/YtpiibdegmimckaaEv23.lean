/- What a shallow function comes to, step by step; the frame of laws with arguments. -/
import Derived.Test.YtpiibdegmimckaaEv22
import Derived.Carry
import Derived.OpenShut
import Derived.Lib.Bytealg
set_option linter.unusedVariables false
set_option linter.unusedSimpArgs false
namespace Go.Proofs.Ev
open Go Go.RowKit Go.ChangeShapes Go.WideShapes
variable {α β : Type}

/-- It comes to something of which Q holds. -/
def Tl (o : Option β) (Q : β → Prop) : Prop := ∃ x, o = some x ∧ Q x
theorem Tl.of {o : Option β} {Q : β → Prop} {x : β} (h : o = some x) (hq : Q x) : Tl o Q := ⟨x, h, hq⟩
theorem Tl.ret {Q : β → Prop} {x : β} (hq : Q x) : Tl (some x) Q := ⟨x, rfl, hq⟩
theorem Tl.seq {o : Option α} {f : α → Option β} {R : α → Prop} {Q : β → Prop} (h : Tl o R) (hf : ∀ x, R x → Tl (f x) Q) : Tl (bnd o f) Q := by
  obtain ⟨x, rfl, hx⟩ := h; exact hf x hx
theorem Tl.mono {o : Option β} {R Q : β → Prop} (h : Tl o R) (hq : ∀ x, R x → Q x) : Tl o Q := by
  obtain ⟨x, h1, hx⟩ := h; exact ⟨x, h1, hq x hx⟩
theorem Tl.tells {o : Option (Value × AH)} (h : Tl o fun r => r.1 = .bool true) : tellsTrue o = true := by
  obtain ⟨⟨v, h2⟩, rfl, hv⟩ := h
  simp only at hv
  subst hv
  rfl
theorem Tl.cond {c : Bool} {x y : Option β} {Q : β → Prop} (h1 : c = true → Tl x Q) (h2 : c = false → Tl y Q) : Tl (bif c then x else y) Q := by
  cases c
  · exact h2 rfl
  · exact h1 rfl
theorem Tl.br {c : Bool} {x y : Option β} {Q : β → Prop} (h1 : c = true → Tl x Q) (h2 : c = false → Tl y Q) : Tl (brV (.bool c) x y) Q := by
  cases c
  · exact h2 rfl
  · exact h1 rfl
/-- A call of a function. -/
theorem inv_func {E : Env} {k : Nat} {f : FuncId} {args : Array Value} {h : AH} (hX : (E.X f).isNone = true) : eInv E (k + 1) (.func f) #[] args h = eFun E k (eInv E k) f args h := by
  simp only [eInv, eTarget, Array.append_empty]
  cases hx : E.X f with
  | none => rfl
  | some g => rw [hx] at hX; cases hX
theorem inv_cap {E : Env} {k : Nat} {f : FuncId} {cap args : Array Value} {h : AH} (hX : (E.X f).isNone = true) : eInv E (k + 1) (.func f) cap args h = eFun E k (eInv E k) f (args ++ cap) h := by
  simp only [eInv, eTarget]
  cases hx : E.X f with
  | none => rfl
  | some g => rw [hx] at hX; cases hX
theorem inv_ext {E : Env} {k : Nat} {f : FuncId} {g : Array Value → Option Value} {args : Array Value} {h : AH} (hX : E.X f = some g) : eInv E (k + 1) (.func f) #[] args h = (g args).map fun v => (v, h) := by
  simp only [eInv, eTarget, Array.append_empty, hX]

/-! ### Arguments stay -/
theorem args_stay {H : Type} {enc : TypeId × Value → H} {P : Program} {W W' : World} (hl : laidOutB P = true) (hb : Below W.heap.size W W') {sp : Nat → Bool} : ∀ (ts : List TypeId) {vs : List Value} {ds : List (DataW H)} {ps : List MemPlace},
    (ts.all fun t => P.readableRec t && decide (t < P.types.size)) = true → DataW.TrodAll enc P W 0 (fun _ => true) true ts vs ds ps → (∀ x ∈ ps, x.block < W.heap.size) → (∀ x ∈ ps, sp x.block = true) → DataW.TrodAll enc P W' 0 sp true ts vs ds ps := by
  intro ts
  induction ts with
  | nil =>
    intro vs ds ps _ h _ _
    obtain ⟨rfl, rfl, rfl⟩ := trodAll_nil h
    exact trodAll_mk0
  | cons t ts ih =>
    intro vs ds ps ht h hlt hsp
    obtain ⟨v, vs', d, ds', p, q, rfl, rfl, rfl, hd, hr⟩ := trodAll_cons h
    simp only [List.all_cons, Bool.and_eq_true, decide_eq_true_eq] at ht
    have hd' : DataW.Trod enc P W' 0 sp true t v d p := WideElems.Trod_stays hl ht.1.1 ht.1.2 hd (fun x hx => hb.same (hlt x (by simp [hx]))) (fun x hx => hsp x (by simp [hx]))
    exact trodAll_cons_mk hd' (ih (by simpa using ht.2) hr (fun x hx => hlt x (by simp [hx])) (fun x hx => hsp x (by simp [hx])))
end Go.Proofs.Ev
