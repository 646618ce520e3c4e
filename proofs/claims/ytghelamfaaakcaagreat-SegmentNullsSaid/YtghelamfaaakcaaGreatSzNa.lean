/- What the functions of the nulls' package come to: 'count', 'Spread', 'Same'. -/
import Derived.Test.YtghelamfaaakcaaGreatSzF
import Derived.Test.YtghelamfaaakcaaGreatSzT
set_option linter.unusedVariables false
set_option linter.unusedSimpArgs false
set_option maxRecDepth 100000
namespace Go.Proofs.YtghelamfaaakcaaGreat.Sh
open Go Go.RowKit Go.Proofs.Ev
theorem bzNa : type_of% (And.intro @ld3 (And.intro @ld4 (And.intro @ld5 (And.intro @ld32 (And.intro @ld72 (And.intro @ld33 (And.intro (fun ox oy a b => bin_eql_bool (ox := ox) (oy := oy) (a := a) (b := b) u4) ((fun ox oy a b => bin_neq_bool (ox := ox) (oy := oy) (a := a) (b := b) u4))))))))) := And.intro @ld3 (And.intro @ld4 (And.intro @ld5 (And.intro @ld32 (And.intro @ld72 (And.intro @ld33 (And.intro (fun ox oy a b => bin_eql_bool (ox := ox) (oy := oy) (a := a) (b := b) u4) ((fun ox oy a b => bin_neq_bool (ox := ox) (oy := oy) (a := a) (b := b) u4))))))))
def bv (b : Bool) : Value := .bool b
def Bools (h : AH) (v : Value) (l : List Bool) : Prop := Sl1 Tryz.prog h v bv l
def cnt (l : List Bool) : Nat := l.count true
theorem cnt_le (l : List Bool) : cnt l ≤ l.length := List.count_le_length
theorem drop_cons {α : Type} {l : List α} {i : Nat} {x : α} (h : l[i]? = some x) : l.drop i = x :: l.drop (i + 1) := by
  have hlt : i < l.length := (List.getElem?_eq_some_iff.1 h).1
  rw [List.drop_eq_getElem_cons hlt]
  rw [List.getElem?_eq_getElem hlt] at h
  cases h; rfl
theorem f96_loop {β : Type} {k : Nat} {Q : β → Prop} {h : AH} {v : Value} {l : List Bool} (S : Bools h v l) (hl : l.length ≤ 2 ^ 40) {ke0 : Value → Value → Value → Value → Value → AH → Option β} (n : Nat) :
    ∀ {i j c : Nat}, i + n = l.length → n < j → c ≤ i → c + cnt (l.drop i) = cnt l →
      (∀ y y', Tl (ke0 (.int .i64 (cnt l)) v (.int .i64 l.length) y y' h) Q) →
      Tl (F96_lrlr (eInv env k) k j (.int .i64 c) v (.int .i64 l.length) (.int .i64 i) h ke0) Q := by
  induction n with
  | zero =>
    intro i j c hi hj hc hs hk
    obtain ⟨j, rfl⟩ : ∃ q, j = q + 1 := ⟨j - 1, by omega⟩
    simp only [F96_lrlr]
    repeat (first | (with_reducible apply qzV; simp (disch := omega) only [coreA, Int.reduceBEq, bzNa] <;> with_reducible rfl) | (with_reducible first | apply qzT | apply qzF | apply qzG | apply qzH) | ((with_reducible first | apply qzB | apply qzC | apply qzD); simp (disch := omega) only [coreA, Int.reduceBEq, bzNa] <;> with_reducible rfl))
    rw [List.drop_eq_nil_of_le (by omega)] at hs
    have : c = cnt l := by simpa [cnt] using hs
    rw [this]
    exact hk _ _
  | succ n ih =>
    intro i j c hi hj hc hs hk
    obtain ⟨j, rfl⟩ : ∃ q, j = q + 1 := ⟨j - 1, by omega⟩
    have hlt : i < l.length := by omega
    obtain ⟨x, hx⟩ : ∃ x, l[i]? = some x := ⟨_, List.getElem?_eq_getElem hlt⟩
    obtain ⟨b, o, hp, hc1⟩ := Sl1.at_ S (t := 105) (k := .i64) hx (by kernel_rfl) sz4
    have hc1 := hc1 h (Grow.refl _)
    rw [drop_cons hx] at hs
    simp only [F96_lrlr]
    unfold F96_lrrllrlr
    repeat (first | (with_reducible apply qzV; simp (disch := omega) only [coreA, Int.reduceBEq, bzNa, hp, hc1, bv] <;> with_reducible rfl) | (with_reducible first | apply qzT | apply qzF | apply qzG | apply qzH) | ((with_reducible first | apply qzB | apply qzC | apply qzD); simp (disch := omega) only [coreA, Int.reduceBEq, bzNa, hp, hc1, bv] <;> with_reducible rfl))
    have e : (i : Int) + 1 = ((i + 1 : Nat) : Int) := by omega
    cases x
    · repeat (first | (with_reducible apply qzV; simp (disch := omega) only [coreA, Int.reduceBEq, bzNa] <;> with_reducible rfl) | (with_reducible first | apply qzT | apply qzF | apply qzG | apply qzH) | ((with_reducible first | apply qzB | apply qzC | apply qzD); simp (disch := omega) only [coreA, Int.reduceBEq, bzNa] <;> with_reducible rfl))
      rw [e]
      exact ih (by omega) (by omega) (by omega) (by simpa [cnt] using hs) hk
    · have e2 : (c : Int) + 1 = ((c + 1 : Nat) : Int) := by omega
      repeat (first | (with_reducible apply qzV; simp (disch := omega) only [coreA, Int.reduceBEq, bzNa] <;> with_reducible rfl) | (with_reducible first | apply qzT | apply qzF | apply qzG | apply qzH) | ((with_reducible first | apply qzB | apply qzC | apply qzD); simp (disch := omega) only [coreA, Int.reduceBEq, bzNa] <;> with_reducible rfl))
      rw [e, e2]
      exact ih (by omega) (by omega) (by omega) (by simp [cnt] at hs ⊢; omega) hk
theorem f96c {k : Nat} {h : AH} {v : Value} {l : List Bool} (S : Bools h v l) (hl : l.length ≤ 2 ^ 40) (hk : l.length < k) : eInv env (k + 1) (.func 96) #[] #[v] h = some (.int .i64 (cnt l), h) := by
  have T : Tl (F96 (eInv env k) k v h) fun r => r = (.int .i64 (cnt l), h) := by
    unfold F96
    have hlen : ∀ h', pLen Tryz.prog #[105] v h' = some (.int .i64 l.length) := fun h' => Sl1.len S (e := 4) (by kernel_rfl)
    repeat (first | (with_reducible apply qzV; simp (disch := omega) only [coreA, Int.reduceBEq, bzNa, hlen] <;> with_reducible rfl) | (with_reducible first | apply qzT | apply qzF | apply qzG | apply qzH) | ((with_reducible first | apply qzB | apply qzC | apply qzD); simp (disch := omega) only [coreA, Int.reduceBEq, bzNa, hlen] <;> with_reducible rfl))
    exact f96_loop S hl l.length (i := 0) (c := 0) (by omega) (by omega) (by omega) (by simp) fun y y' => ⟨_, rfl, rfl⟩
  obtain ⟨r, h1, h2⟩ := T
  rw [F96_call, h1, h2]
def brows (l : List Bool) : List (List Value) := l.map fun z => [bv z]
theorem brows_len (l : List Bool) : (brows l).length = l.length := List.length_map ..
end Go.Proofs.YtghelamfaaakcaaGreat.Sh
