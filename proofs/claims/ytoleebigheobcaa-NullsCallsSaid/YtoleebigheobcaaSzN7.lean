/- What 'Get' of the nulls' package comes to. -/
import Derived.Test.YtoleebigheobcaaSzN6
import Derived.Test.YtoleebigheobcaaSzBs
set_option linter.unusedVariables false
set_option linter.unusedSimpArgs false
set_option maxRecDepth 100000
namespace Go.Proofs.Ytoleebigheobcaa.Sh
open Go Go.RowKit Go.Proofs.Ev
theorem base_N7 : type_of% (And.intro @ld3 (And.intro @ld4 (And.intro @ld5 (And.intro @ld22 (And.intro @ld25 (And.intro @ld32 (And.intro @ld49 (And.intro @ld52 (And.intro (fun a h => conv_int (a := a) (h := h) u3 u49) (And.intro (fun a h => conv_int (a := a) (h := h) u49 u3) (And.intro (fun a h => conv_int (a := a) (h := h) u3 u68) (And.intro (fun a h => conv_int (a := a) (h := h) u68 u3) (And.intro (fun ox oy a b => bin_eql_bool (ox := ox) (oy := oy) (a := a) (b := b) u4) (And.intro (fun ox oy a b => bin_neq_bool (ox := ox) (oy := oy) (a := a) (b := b) u4) (And.intro @ex2_0 (And.intro @ex2_1 (And.intro @ex3_0 (And.intro @ex3_1 (@ex3_2))))))))))))))))))) := And.intro @ld3 (And.intro @ld4 (And.intro @ld5 (And.intro @ld22 (And.intro @ld25 (And.intro @ld32 (And.intro @ld49 (And.intro @ld52 (And.intro (fun a h => conv_int (a := a) (h := h) u3 u49) (And.intro (fun a h => conv_int (a := a) (h := h) u49 u3) (And.intro (fun a h => conv_int (a := a) (h := h) u3 u68) (And.intro (fun a h => conv_int (a := a) (h := h) u68 u3) (And.intro (fun ox oy a b => bin_eql_bool (ox := ox) (oy := oy) (a := a) (b := b) u4) (And.intro (fun ox oy a b => bin_neq_bool (ox := ox) (oy := oy) (a := a) (b := b) u4) (And.intro @ex2_0 (And.intro @ex2_1 (And.intro @ex3_0 (And.intro @ex3_1 (@ex3_2))))))))))))))))))
theorem f16c {k : Nat} {n0 : Nat} {h0 h : AH} {L : List (Nat × AO)} {O : List OS} {v : Value} {l : List Nat} (S : Stt Try.prog n0 h0 h L O) (B : Bytes h v l) (hl : l.length ≤ 2 ^ 30) :
    Tl (eInv env (k + 1) (.func 16) #[] #[v] h) fun r => Stt Try.prog n0 h0 r.2 L ((r.1, 1, u8rows l) :: O) ∧ Grow h r.2 := by
  rw [F16_call]
  unfold F16
  refine Tl.copyB S B hl fun v' h' S' g _ => ?_
  exact ⟨_, rfl, S', g⟩
theorem f17_loop {β : Type} {k : Nat} {Q : β → Prop} {h : AH} {v w : Value} {l m : List Nat} (S : Bytes h v l) (T : Bytes h w m) (hlm : l.length = m.length) (hl : l.length ≤ 2 ^ 40) {ke0 : Value → Value → Value → Value → AH → Option β} {kr : Value → AH → Option β} (n : Nat) :
    ∀ {i j : Nat}, i + n = l.length → n < j → (l.drop i = m.drop i → ∀ y y', Tl (ke0 v w y y' h) Q) → (l.drop i ≠ m.drop i → Tl (kr (.bool false) h) Q) → Tl (F17_lrlrr (eInv env k) k j v w (.int .i64 i) h ke0 kr) Q := by
  have hlen : ∀ h', pLen Try.prog #[32] v h' = some (.int .i64 l.length) := fun h' => S.len
  induction n with
  | zero =>
    intro i j hi hj hk hr
    obtain ⟨j, rfl⟩ : ∃ q, j = q + 1 := ⟨j - 1, by omega⟩
    simp only [F17_lrlrr]
    repeat (first | (with_reducible apply Tl.val; focus (simp (disch := omega) only [coreA, Int.reduceBEq, base_N7, hlen] <;> with_reducible rfl)) | (with_reducible first | refine Tl.brT ?_ | refine Tl.brF ?_ | refine Tl.gd_on ?_ | refine Tl.gd3_on ?_) | ((with_reducible first | apply Tl.brC | apply Tl.gdC | apply Tl.gd3C); focus (simp (disch := omega) only [coreA, Int.reduceBEq, base_N7, hlen] <;> with_reducible rfl)))
    exact hk (by rw [List.drop_eq_nil_of_le (by omega), List.drop_eq_nil_of_le (by omega)]) _ _
  | succ n ih =>
    intro i j hi hj hk hr
    obtain ⟨j, rfl⟩ : ∃ q, j = q + 1 := ⟨j - 1, by omega⟩
    obtain ⟨x, hx⟩ : ∃ x, l[i]? = some x := ⟨_, List.getElem?_eq_getElem (by omega)⟩
    obtain ⟨y, hy⟩ : ∃ x, m[i]? = some x := ⟨_, List.getElem?_eq_getElem (by omega)⟩
    obtain ⟨b, o, hp, hc⟩ := S.at_ hx
    obtain ⟨b2, o2, hp2, hc2⟩ := T.at_ hy
    have hc := hc h (Grow.refl _)
    have hc2 := hc2 h (Grow.refl _)
    rw [drop_cons hx, drop_cons hy] at hk hr
    have e : (i : Int) + 1 = ((i + 1 : Nat) : Int) := by omega
    simp only [F17_lrlrr]
    by_cases q : x = y
    · repeat (first | (with_reducible apply Tl.val; focus (simp (disch := omega) only [coreA, Int.reduceBEq, base_N7, hlen, hp, hc, hp2, hc2] <;> with_reducible rfl)) | (with_reducible first | refine Tl.brT ?_ | refine Tl.brF ?_ | refine Tl.gd_on ?_ | refine Tl.gd3_on ?_) | ((with_reducible first | apply Tl.brC | apply Tl.gdC | apply Tl.gd3C); focus (simp (disch := omega) only [coreA, Int.reduceBEq, base_N7, hlen, hp, hc, hp2, hc2] <;> with_reducible rfl)))
      rw [e]
      subst q
      exact ih (by omega) (by omega) (fun q => hk (by rw [q])) (fun q => hr (by simpa using q))
    · repeat (first | (with_reducible apply Tl.val; focus (simp (disch := omega) only [coreA, Int.reduceBEq, base_N7, hlen, hp, hc, hp2, hc2] <;> with_reducible rfl)) | (with_reducible first | refine Tl.brT ?_ | refine Tl.brF ?_ | refine Tl.gd_on ?_ | refine Tl.gd3_on ?_) | ((with_reducible first | apply Tl.brC | apply Tl.gdC | apply Tl.gd3C); focus (simp (disch := omega) only [coreA, Int.reduceBEq, base_N7, hlen, hp, hc, hp2, hc2] <;> with_reducible rfl)))
      exact hr (by simp [q])
theorem f17c {k : Nat} {h : AH} {v w : Value} {l m : List Nat} (S : Bytes h v l) (T : Bytes h w m) (hl : l.length ≤ 2 ^ 40) (hm : m.length ≤ 2 ^ 40) (hk : l.length < k) : eInv env (k + 1) (.func 17) #[] #[v, w] h = some (.bool (decide (l = m)), h) := by
  have T : Tl (F17 (eInv env k) k v w h) fun r => r = (.bool (decide (l = m)), h) := by
    have hlen : ∀ h', pLen Try.prog #[32] v h' = some (.int .i64 l.length) := fun h' => S.len
    have hlen2 : ∀ h', pLen Try.prog #[32] w h' = some (.int .i64 m.length) := fun h' => T.len
    unfold F17
    by_cases e : l.length = m.length
    · repeat (first | (with_reducible apply Tl.val; focus (simp (disch := omega) only [coreA, Int.reduceBEq, base_N7, hlen, hlen2] <;> with_reducible rfl)) | (with_reducible first | refine Tl.brT ?_ | refine Tl.brF ?_ | refine Tl.gd_on ?_ | refine Tl.gd3_on ?_) | ((with_reducible first | apply Tl.brC | apply Tl.gdC | apply Tl.gd3C); focus (simp (disch := omega) only [coreA, Int.reduceBEq, base_N7, hlen, hlen2] <;> with_reducible rfl)))
      refine f17_loop S T e hl l.length (i := 0) (by omega) (by omega) (fun q y y' => ⟨_, rfl, ?_⟩) (fun q => ⟨_, rfl, ?_⟩)
      · have : l = m := by simpa using q
        simp [this]
      · have : l ≠ m := by simpa using q
        simp [this]
    · repeat (first | (with_reducible apply Tl.val; focus (simp (disch := omega) only [coreA, Int.reduceBEq, base_N7, hlen, hlen2] <;> with_reducible rfl)) | (with_reducible first | refine Tl.brT ?_ | refine Tl.brF ?_ | refine Tl.gd_on ?_ | refine Tl.gd3_on ?_) | ((with_reducible first | apply Tl.brC | apply Tl.gdC | apply Tl.gd3C); focus (simp (disch := omega) only [coreA, Int.reduceBEq, base_N7, hlen, hlen2] <;> with_reducible rfl)))
      have : l ≠ m := fun q => e (by rw [q])
      exact ⟨_, rfl, by simp [this]⟩
  obtain ⟨r, h1, h2⟩ := T
  rw [F17_call, h1, h2]
end Go.Proofs.Ytoleebigheobcaa.Sh
