/- How the abstract memory of Ev1 stands to a world of the model: values, objects, the whole; what each change of both leaves. -/
import Derived.Test.YtpiibdegmimckaaEv1
import Derived.WalkKit
import Derived.RangeFuncLeaves
import Derived.RangeFuncCalls
import Derived.OrdersIn
set_option linter.unusedVariables false
namespace Go.Proofs.Ev
open Go Go.RowKit

/-! ### 1. Values -/
structure RB where
  blk : Nat
  base : Nat
  n : Nat
  cap : Nat
  sz : Nat
abbrev Ren := Nat → Option RB
def Ren.le (ρ ρ' : Ren) : Prop := ∀ i r, ρ i = some r → ρ' i = some r
theorem Ren.le_refl (ρ : Ren) : ρ.le ρ := fun _ _ h => h
theorem Ren.le_trans {a b c : Ren} (h : a.le b) (k : b.le c) : a.le c := fun i r x => k i r (h i r x)
def Ren.ext (ρ : Ren) (n : Nat) (r : RB) : Ren := fun i => if i = n then some r else ρ i

inductive FnR (ρ : Ren) : Fn → Fn → Prop
  | func (f : FuncId) : FnR ρ (.func f) (.func f)
  | methodOf (t : TypeId) (m : String) : FnR ρ (.methodOf t m) (.methodOf t m)
  | yield (l : Nat) (r : RB) : ρ l = some r → FnR ρ (.yield l) (.yield r.blk)
  | method (m : String) : FnR ρ (.method m) (.method m)
def AddrR (ρ : Ren) (a a' : Addr) : Prop := a.spot = none ∧ ∃ r, ρ a.block = some r ∧ a' = ⟨r.blk, r.base + a.off, none⟩
inductive VR (ρ : Ren) : Value → Value → Prop
  | unk (v : Value) : VR ρ (.tuple #[]) v
  | skipped : VR ρ skipped (.tuple #[])
  | bool (b : Bool) : VR ρ (.bool b) (.bool b)
  | int (k : IntKind) (n : Int) : VR ρ (.int k n) (.int k n)
  | float (k : FloatKind) (n : Nat) : VR ρ (.float k n) (.float k n)
  | string (s : ByteArray) : VR ρ (.string s) (.string s)
  | nilPtr : VR ρ (.pointer none) (.pointer none)
  | ptr (a a' : Addr) : AddrR ρ a a' → VR ρ (.pointer (some a)) (.pointer (some a'))
  | nilSlice (n c : Nat) : VR ρ (.slice none n c) (.slice none n c)
  | slice0 (a a' : Addr) : VR ρ (.slice (some a) 0 0) (.slice (some a') 0 0)
  | slice (a a' : Addr) (n c c' : Nat) (r : RB) : AddrR ρ a a' → ρ a.block = some r → (c' = c ∨ (c ≤ c' ∧ 0 < r.sz ∧ a.off + c * r.sz = r.n ∧ a.off + c' * r.sz ≤ r.cap)) →
      VR ρ (.slice (some a) n c) (.slice (some a') n c')
  | nilMap : VR ρ (.map none) (.map none)
  | map (m : Nat) (r : RB) : ρ m = some r → VR ρ (.map (some m)) (.map (some r.blk))
  | func (f f' : Fn) (a b a' b' : Array Value) : FnR ρ f f' → a.size = a'.size → (∀ (i : Nat) (v v' : Value), a[i]? = some v → a'[i]? = some v' → VR ρ v v') →
      b.size = b'.size → (∀ (i : Nat) (v v' : Value), b[i]? = some v → b'[i]? = some v' → VR ρ v v') → VR ρ (.func f a b) (.func f' a' b')
  | nilFunc : VR ρ .nilFunc .nilFunc
  | iface (t : TypeId) (v v' : Value) : VR ρ v v' → VR ρ (.iface t v) (.iface t v')
  | nilIface : VR ρ .nilIface .nilIface
  | agg (a a' : Array Value) : a.size = a'.size → (∀ (i : Nat) (v v' : Value), a[i]? = some v → a'[i]? = some v' → VR ρ v v') → VR ρ (.agg a) (.agg a')
  | tuple (a a' : Array Value) : a.size = a'.size → (∀ (i : Nat) (v v' : Value), a[i]? = some v → a'[i]? = some v' → VR ρ v v') → VR ρ (.tuple a) (.tuple a')

theorem FnR.mono {ρ ρ' : Ren} (h : ρ.le ρ') {f f' : Fn} (k : FnR ρ f f') : FnR ρ' f f' := by
  cases k with
  | func => exact .func _
  | methodOf => exact .methodOf _ _
  | yield l r hr => exact .yield l r (h _ _ hr)
  | method => exact .method _
theorem AddrR.mono {ρ ρ' : Ren} (h : ρ.le ρ') {a a' : Addr} (k : AddrR ρ a a') : AddrR ρ' a a' := let ⟨h0, r, h1, h2⟩ := k; ⟨h0, r, h _ _ h1, h2⟩
theorem VR.mono {ρ ρ' : Ren} (h : ρ.le ρ') {v v' : Value} (k : VR ρ v v') : VR ρ' v v' := by
  induction k with
  | unk => exact .unk _
  | skipped => exact .skipped
  | bool => exact .bool _
  | int => exact .int _ _
  | float => exact .float _ _
  | string => exact .string _
  | nilPtr => exact .nilPtr
  | ptr a a' hr => exact .ptr _ _ (hr.mono h)
  | nilSlice => exact .nilSlice _ _
  | slice0 => exact .slice0 _ _
  | slice a a' n c c' r hr h1 h2 => exact .slice _ _ _ _ _ r (hr.mono h) (h _ _ h1) h2
  | nilMap => exact .nilMap
  | map m r hr => exact .map _ _ (h _ _ hr)
  | func f f' a b a' b' hf ha _ hb _ iha ihb => exact .func _ _ _ _ _ _ (hf.mono h) ha iha hb ihb
  | nilFunc => exact .nilFunc
  | iface t v v' _ ih => exact .iface _ _ _ ih
  | nilIface => exact .nilIface
  | agg a a' hs _ ih => exact .agg _ _ hs ih
  | tuple a a' hs _ ih => exact .tuple _ _ hs ih

/-- Arrays and lists, value by value. -/
def AsR (ρ : Ren) (a a' : Array Value) : Prop := a.size = a'.size ∧ ∀ (i : Nat) (v v' : Value), a[i]? = some v → a'[i]? = some v' → VR ρ v v'
inductive LsR (ρ : Ren) : List Value → List Value → Prop
  | nil : LsR ρ [] []
  | cons {x y : Value} {xs ys : List Value} : VR ρ x y → LsR ρ xs ys → LsR ρ (x :: xs) (y :: ys)
theorem AsR.mono {ρ ρ' : Ren} (h : ρ.le ρ') {a a' : Array Value} (k : AsR ρ a a') : AsR ρ' a a' := ⟨k.1, fun i v v' x y => (k.2 i v v' x y).mono h⟩
theorem LsR.mono {ρ ρ' : Ren} (h : ρ.le ρ') {a a' : List Value} (k : LsR ρ a a') : LsR ρ' a a' := by
  induction k with
  | nil => exact .nil
  | cons hx _ ih => exact .cons (hx.mono h) ih
theorem AsR.list {ρ : Ren} {a a' : Array Value} : AsR ρ a a' ↔ LsR ρ a.toList a'.toList := by
  constructor
  · rintro ⟨h1, h2⟩
    have : ∀ (l l' : List Value), l.length = l'.length → (∀ (i : Nat) (v v' : Value), l[i]? = some v → l'[i]? = some v' → VR ρ v v') → LsR ρ l l' := by
      intro l
      induction l with
      | nil => intro l' hl _; cases l' with
        | nil => exact .nil
        | cons => simp at hl
      | cons x xs ih =>
        intro l' hl hv
        cases l' with
        | nil => simp at hl
        | cons y ys => exact .cons (hv 0 x y rfl rfl) (ih ys (by simpa using hl) fun i v v' a b => hv (i + 1) v v' a b)
    exact this _ _ (by simpa using h1) (fun i v v' x y => h2 i v v' (by simpa using x) (by simpa using y))
  · intro h
    have : ∀ (l l' : List Value), LsR ρ l l' → l.length = l'.length ∧ (∀ (i : Nat) (v v' : Value), l[i]? = some v → l'[i]? = some v' → VR ρ v v') := by
      intro l l' hl
      induction hl with
      | nil => exact ⟨rfl, fun i v v' a => by simp at a⟩
      | cons hxy _ ih =>
        refine ⟨by simp [ih.1], fun i v v' a b => ?_⟩
        cases i with
        | zero => simp at a b; subst a; subst b; exact hxy
        | succ i => exact ih.2 i v v' (by simpa using a) (by simpa using b)
    have := this _ _ h
    exact ⟨by simpa using this.1, fun i v v' x y => this.2 i v v' (by simpa using x) (by simpa using y)⟩
theorem LsR.length {ρ : Ren} {a a' : List Value} (h : LsR ρ a a') : a.length = a'.length := by
  induction h with
  | nil => rfl
  | cons _ _ ih => simp [ih]
theorem LsR.get {ρ : Ren} {a a' : List Value} (h : LsR ρ a a') {i : Nat} {v : Value} (hv : a[i]? = some v) : ∃ v', a'[i]? = some v' ∧ VR ρ v v' := by
  induction h generalizing i with
  | nil => simp at hv
  | cons hxy _ ih =>
    cases i with
    | zero => simp at hv; subst hv; exact ⟨_, rfl, hxy⟩
    | succ i => simpa using ih (by simpa using hv)
theorem AsR.get {ρ : Ren} {a a' : Array Value} (h : AsR ρ a a') {i : Nat} {v : Value} (hv : a[i]? = some v) : ∃ v', a'[i]? = some v' ∧ VR ρ v v' := by
  have hi : i < a'.size := h.1 ▸ (Array.getElem?_eq_some_iff.1 hv).1
  exact ⟨a'[i], by simp [hi], h.2 i v _ hv (by simp [hi])⟩
theorem AsR.getD {ρ : Ren} {a a' : Array Value} (h : AsR ρ a a') (i : Nat) : VR ρ (a.getD i unk) (a'.getD i unk) := by
  cases hv : a[i]? with
  | some v => obtain ⟨v', h1, h2⟩ := h.get hv; simpa [hv, h1] using h2
  | none =>
    have : a'[i]? = none := by rw [Array.getElem?_eq_none_iff] at *; rw [← h.1]; exact hv
    simpa [hv, this, unk] using VR.unk _
theorem AsR.set {ρ : Ren} {a a' : Array Value} (h : AsR ρ a a') (i : Nat) {v v' : Value} (hv : VR ρ v v') : AsR ρ (a.setIfInBounds i v) (a'.setIfInBounds i v') := by
  refine ⟨by simp [h.1], fun j x x' hx hx' => ?_⟩
  rw [Array.getElem?_setIfInBounds] at hx hx'
  by_cases hij : i = j
  · subst hij
    rw [if_pos rfl] at hx hx'
    split at hx <;> split at hx' <;> simp_all
  · rw [if_neg hij] at hx hx'
    exact h.2 j x x' hx hx'
/-- Values without an address are the same. -/
theorem VR.eq0 {ρ : Ren} {v v' : Value} (h : VR ρ v v') (hp : plain0 v = true) : v = v' := by
  cases h <;> simp_all [plain0, Ev.skipped]
theorem LsR.eq0 {ρ : Ren} {a a' : List Value} (h : LsR ρ a a') (hp : a.all plain0 = true) : a = a' := by
  induction h with
  | nil => rfl
  | cons hxy _ ih =>
    simp only [List.all_cons, Bool.and_eq_true] at hp
    rw [hxy.eq0 hp.1, ih hp.2]
theorem VR.eqP {ρ : Ren} {v v' : Value} (h : VR ρ v v') (hp : plain v = true) : v = v' := by
  cases h with
  | agg a a' hs hv =>
    have := LsR.eq0 (AsR.list.1 ⟨hs, hv⟩) hp
    exact congrArg Value.agg (Array.toList_inj.1 this)
  | _ => exact VR.eq0 (ρ := ρ) (by constructor <;> assumption) hp
theorem VR.refl0 (ρ : Ren) {v : Value} (hp : plain0 v = true) : VR ρ v v := by
  cases v with
  | pointer a => cases a <;> simp_all [plain0]; exact .nilPtr
  | slice a n c => cases a <;> simp_all [plain0]; exact .nilSlice _ _
  | map a => cases a <;> simp_all [plain0]; exact .nilMap
  | _ => first | (simp [plain0] at hp; done) | (constructor; done)
theorem LsR.refl0 (ρ : Ren) {a : List Value} (hp : a.all plain0 = true) : LsR ρ a a := by
  induction a with
  | nil => exact .nil
  | cons x xs ih =>
    simp only [List.all_cons, Bool.and_eq_true] at hp
    exact .cons (VR.refl0 ρ hp.1) (ih hp.2)
theorem VR.reflP (ρ : Ren) {v : Value} (hp : plain v = true) : VR ρ v v := by
  cases v with
  | agg a => have := AsR.list.2 (LsR.refl0 ρ hp); exact .agg _ _ this.1 this.2
  | _ => exact VR.refl0 ρ hp
/-- A value's cells. -/
theorem VR.cells {ρ : Ren} {v v' : Value} (h : VR ρ v v') (hk : kn v = true) : AsR ρ v.cells v'.cells := by
  cases h with
  | agg a a' hs hv => exact ⟨hs, hv⟩
  | unk => simp [kn] at hk
  | skipped => simp [kn, Ev.skipped] at hk
  | _ => refine AsR.list.2 (.cons ?_ .nil); constructor <;> assumption

theorem prun_run {P : Program} {α : Type} {s : Sem α} {a : α} (h : prun P s = some a) : ∀ w, s.run P w = .ok a w := by
  induction s generalizing a with
  | pure x => intro w; simp [prun] at h; subst h; rfl
  | program k ih => intro w; simp only [prun] at h; simpa [Sem.run] using ih P h w
  | _ => simp [prun] at h
end Go.Proofs.Ev
