/- What the functions of the nulls' package come to: 'count', 'Spread', 'Same'. -/
import Derived.Test.YtoleebigheobcaaSzF
import Derived.Test.YtoleebigheobcaaSzT
set_option linter.unusedVariables false
set_option linter.unusedSimpArgs false
set_option maxRecDepth 100000
namespace Go.Proofs.Ytoleebigheobcaa.Sh
open Go Go.RowKit Go.Proofs.Ev
theorem base_N1 : type_of% (And.intro @ld3 (And.intro @ld4 (And.intro @ld5 (And.intro @ld22 (And.intro @ld25 (And.intro @ld32 (And.intro (fun ox oy a b => bin_eql_bool (ox := ox) (oy := oy) (a := a) (b := b) u4) ((fun ox oy a b => bin_neq_bool (ox := ox) (oy := oy) (a := a) (b := b) u4))))))))) := And.intro @ld3 (And.intro @ld4 (And.intro @ld5 (And.intro @ld22 (And.intro @ld25 (And.intro @ld32 (And.intro (fun ox oy a b => bin_eql_bool (ox := ox) (oy := oy) (a := a) (b := b) u4) ((fun ox oy a b => bin_neq_bool (ox := ox) (oy := oy) (a := a) (b := b) u4))))))))
def bv (b : Bool) : Value := .bool b
def iv (z : Int) : Value := .int .i64 z
def Bools (h : AH) (v : Value) (l : List Bool) : Prop := Sl1 Try.prog h v bv l
def Nums (h : AH) (v : Value) (l : List Int) : Prop := Sl1 Try.prog h v iv l
def cnt (l : List Bool) : Nat := l.count true
theorem cnt_le (l : List Bool) : cnt l ≤ l.length := List.count_le_length
theorem drop_cons {α : Type} {l : List α} {i : Nat} {x : α} (h : l[i]? = some x) : l.drop i = x :: l.drop (i + 1) := by
  have hlt : i < l.length := (List.getElem?_eq_some_iff.1 h).1
  rw [List.drop_eq_getElem_cons hlt]
  rw [List.getElem?_eq_getElem hlt] at h
  cases h; rfl
theorem f23_loop {β : Type} {k : Nat} {Q : β → Prop} {h : AH} {v : Value} {l : List Bool} (S : Bools h v l) (hl : l.length ≤ 2 ^ 40) {ke0 : Value → Value → Value → Value → Value → AH → Option β} (n : Nat) :
    ∀ {i j c : Nat}, i + n = l.length → n < j → c ≤ i → c + cnt (l.drop i) = cnt l →
      (∀ y y', Tl (ke0 (.int .i64 (cnt l)) v (.int .i64 l.length) y y' h) Q) →
      Tl (F23_lrlr (eInv env k) k j (.int .i64 c) v (.int .i64 l.length) (.int .i64 i) h ke0) Q := by
  induction n with
  | zero =>
    intro i j c hi hj hc hs hk
    obtain ⟨j, rfl⟩ : ∃ q, j = q + 1 := ⟨j - 1, by omega⟩
    simp only [F23_lrlr]
    repeat (first | (with_reducible apply Tl.val; focus (simp (disch := omega) only [coreA, Int.reduceBEq, base_N1] <;> with_reducible rfl)) | (with_reducible first | refine Tl.brT ?_ | refine Tl.brF ?_ | refine Tl.gd_on ?_ | refine Tl.gd3_on ?_) | ((with_reducible first | apply Tl.brC | apply Tl.gdC | apply Tl.gd3C); focus (simp (disch := omega) only [coreA, Int.reduceBEq, base_N1] <;> with_reducible rfl)))
    rw [List.drop_eq_nil_of_le (by omega)] at hs
    have : c = cnt l := by simpa [cnt] using hs
    rw [this]
    exact hk _ _
  | succ n ih =>
    intro i j c hi hj hc hs hk
    obtain ⟨j, rfl⟩ : ∃ q, j = q + 1 := ⟨j - 1, by omega⟩
    have hlt : i < l.length := by omega
    obtain ⟨x, hx⟩ : ∃ x, l[i]? = some x := ⟨_, List.getElem?_eq_getElem hlt⟩
    obtain ⟨b, o, hp, hc1⟩ := Sl1.at_ S (t := 43) (k := .i64) hx (by kernel_rfl) sz4
    have hc1 := hc1 h (Grow.refl _)
    rw [drop_cons hx] at hs
    simp only [F23_lrlr]
    unfold F23_lrrllrlr
    repeat (first | (with_reducible apply Tl.val; focus (simp (disch := omega) only [coreA, Int.reduceBEq, base_N1, hp, hc1, bv] <;> with_reducible rfl)) | (with_reducible first | refine Tl.brT ?_ | refine Tl.brF ?_ | refine Tl.gd_on ?_ | refine Tl.gd3_on ?_) | ((with_reducible first | apply Tl.brC | apply Tl.gdC | apply Tl.gd3C); focus (simp (disch := omega) only [coreA, Int.reduceBEq, base_N1, hp, hc1, bv] <;> with_reducible rfl)))
    have e : (i : Int) + 1 = ((i + 1 : Nat) : Int) := by omega
    cases x
    · repeat (first | (with_reducible apply Tl.val; focus (simp (disch := omega) only [coreA, Int.reduceBEq, base_N1] <;> with_reducible rfl)) | (with_reducible first | refine Tl.brT ?_ | refine Tl.brF ?_ | refine Tl.gd_on ?_ | refine Tl.gd3_on ?_) | ((with_reducible first | apply Tl.brC | apply Tl.gdC | apply Tl.gd3C); focus (simp (disch := omega) only [coreA, Int.reduceBEq, base_N1] <;> with_reducible rfl)))
      rw [e]
      exact ih (by omega) (by omega) (by omega) (by simpa [cnt] using hs) hk
    · have e2 : (c : Int) + 1 = ((c + 1 : Nat) : Int) := by omega
      repeat (first | (with_reducible apply Tl.val; focus (simp (disch := omega) only [coreA, Int.reduceBEq, base_N1] <;> with_reducible rfl)) | (with_reducible first | refine Tl.brT ?_ | refine Tl.brF ?_ | refine Tl.gd_on ?_ | refine Tl.gd3_on ?_) | ((with_reducible first | apply Tl.brC | apply Tl.gdC | apply Tl.gd3C); focus (simp (disch := omega) only [coreA, Int.reduceBEq, base_N1] <;> with_reducible rfl)))
      rw [e, e2]
      exact ih (by omega) (by omega) (by omega) (by simp [cnt] at hs ⊢; omega) hk
theorem f23c {k : Nat} {h : AH} {v : Value} {l : List Bool} (S : Bools h v l) (hl : l.length ≤ 2 ^ 40) (hk : l.length < k) : eInv env (k + 1) (.func 23) #[] #[v] h = some (.int .i64 (cnt l), h) := by
  have T : Tl (F23 (eInv env k) k v h) fun r => r = (.int .i64 (cnt l), h) := by
    unfold F23
    have hlen : ∀ h', pLen Try.prog #[43] v h' = some (.int .i64 l.length) := fun h' => Sl1.len S (e := 4) (by kernel_rfl)
    repeat (first | (with_reducible apply Tl.val; focus (simp (disch := omega) only [coreA, Int.reduceBEq, base_N1, hlen] <;> with_reducible rfl)) | (with_reducible first | refine Tl.brT ?_ | refine Tl.brF ?_ | refine Tl.gd_on ?_ | refine Tl.gd3_on ?_) | ((with_reducible first | apply Tl.brC | apply Tl.gdC | apply Tl.gd3C); focus (simp (disch := omega) only [coreA, Int.reduceBEq, base_N1, hlen] <;> with_reducible rfl)))
    exact f23_loop S hl l.length (i := 0) (c := 0) (by omega) (by omega) (by omega) (by simp) fun y y' => ⟨_, rfl, rfl⟩
  obtain ⟨r, h1, h2⟩ := T
  rw [F23_call, h1, h2]
theorem f9c {k : Nat} {h : AH} {v : Value} {l : List Bool} (S : Bools h v l) (hl : l.length ≤ 2 ^ 40) (hk : l.length < k) : eInv env (k + 2) (.func 9) #[] #[v] h = some (.int .i64 (cnt l), h) := by
  rw [F9_call]
  unfold F9
  rw [f23c S hl hk]
  rfl
/-- Which value each flag has. -/
def spreadL : Int → List Bool → List Int
  | _, [] => []
  | n, true :: l => -1 :: spreadL n l
  | n, false :: l => n :: spreadL (n + 1) l
theorem spreadL_len : ∀ (l : List Bool) (n : Int), (spreadL n l).length = l.length
  | [], _ => rfl
  | true :: l, n => by simp [spreadL, spreadL_len l]
  | false :: l, n => by simp [spreadL, spreadL_len l]
def irows (l : List Int) : List (List Value) := l.map fun z => [iv z]
def brows (l : List Bool) : List (List Value) := l.map fun z => [bv z]
theorem irows_len (l : List Int) : (irows l).length = l.length := List.length_map ..
theorem brows_len (l : List Bool) : (brows l).length = l.length := List.length_map ..
theorem f10_loop {β : Type} {k : Nat} {Q : β → Prop} {h0 : AH} {v : Value} {l : List Bool} (S : Bools h0 v l) (hl : l.length ≤ 2 ^ 30) {ke0 : Value → Value → Value → Value → Value → Value → AH → Option β} (n : Nat) :
    ∀ {i j c : Nat} {h : AH} {ov : Value} {done : List Int}, i + n = l.length → n < j → c ≤ i → done.length = i → Stt Try.prog h0.n h0 h [] [(ov, 1, irows done)] →
      (∀ h' ov' y y' y'', Stt Try.prog h0.n h0 h' [] [(ov', 1, irows (done ++ spreadL c (l.drop i)))] → Tl (ke0 ov' y v y' y'' (.bool false) h') Q) →
      Tl (F10_lrlrrrr (eInv env k) k j ov (.int .i64 c) v (.int .i64 l.length) (.int .i64 i) h ke0) Q := by
  induction n with
  | zero =>
    intro i j c h ov done hi hj hc hd T hk
    obtain ⟨j, rfl⟩ : ∃ q, j = q + 1 := ⟨j - 1, by omega⟩
    simp only [F10_lrlrrrr]
    repeat (first | (with_reducible apply Tl.val; focus (simp (disch := omega) only [coreA, Int.reduceBEq, base_N1] <;> with_reducible rfl)) | (with_reducible first | refine Tl.brT ?_ | refine Tl.brF ?_ | refine Tl.gd_on ?_ | refine Tl.gd3_on ?_) | ((with_reducible first | apply Tl.brC | apply Tl.gdC | apply Tl.gd3C); focus (simp (disch := omega) only [coreA, Int.reduceBEq, base_N1] <;> with_reducible rfl)))
    refine hk _ _ _ _ _ ?_
    rw [List.drop_eq_nil_of_le (by omega)]
    simpa [spreadL] using T
  | succ n ih =>
    intro i j c h ov done hi hj hc hd T hk
    obtain ⟨j, rfl⟩ : ∃ q, j = q + 1 := ⟨j - 1, by omega⟩
    have hlt : i < l.length := by omega
    obtain ⟨x, hx⟩ : ∃ x, l[i]? = some x := ⟨_, List.getElem?_eq_getElem hlt⟩
    obtain ⟨b, o, hp, hc1⟩ := Sl1.at_ S (t := 22) (k := .i64) hx u22 sz4
    have hc1 := hc1 h T.grow
    simp only [F10_lrlrrrr]
    unfold F10_lrrllrlrrrr
    repeat (first | (with_reducible apply Tl.val; focus (simp (disch := omega) only [coreA, Int.reduceBEq, base_N1, hp, hc1, bv] <;> with_reducible rfl)) | (with_reducible first | refine Tl.brT ?_ | refine Tl.brF ?_ | refine Tl.gd_on ?_ | refine Tl.gd3_on ?_) | ((with_reducible first | apply Tl.brC | apply Tl.gdC | apply Tl.gd3C); focus (simp (disch := omega) only [coreA, Int.reduceBEq, base_N1, hp, hc1, bv] <;> with_reducible rfl)))
    have e : (i : Int) + 1 = ((i + 1 : Nat) : Int) := by omega
    cases x
    · repeat (first | (with_reducible apply Tl.val; focus (simp (disch := omega) only [coreA, Int.reduceBEq, base_N1] <;> with_reducible rfl)) | (with_reducible first | refine Tl.brT ?_ | refine Tl.brF ?_ | refine Tl.gd_on ?_ | refine Tl.gd3_on ?_) | ((with_reducible first | apply Tl.brC | apply Tl.gdC | apply Tl.gd3C); focus (simp (disch := omega) only [coreA, Int.reduceBEq, base_N1] <;> with_reducible rfl)))
      refine Tl.push T 0 rfl app25 (bs25 _ _) rfl rfl (by rw [irows_len]; omega) fun ov' h' T' => ?_
      have e2 : (c : Int) + 1 = ((c + 1 : Nat) : Int) := by omega
      repeat (first | (with_reducible apply Tl.val; focus (simp (disch := omega) only [coreA, Int.reduceBEq, base_N1] <;> with_reducible rfl)) | (with_reducible first | refine Tl.brT ?_ | refine Tl.brF ?_ | refine Tl.gd_on ?_ | refine Tl.gd3_on ?_) | ((with_reducible first | apply Tl.brC | apply Tl.gdC | apply Tl.gd3C); focus (simp (disch := omega) only [coreA, Int.reduceBEq, base_N1] <;> with_reducible rfl)))
      rw [e, e2]
      refine ih (done := done ++ [(c : Int)]) (by omega) (by omega) (by omega) (by simp [hd]) (by simpa [irows, iv] using T') fun h'' ov'' y y' y'' T'' => ?_
      refine hk _ _ _ _ _ ?_
      rw [drop_cons hx]
      simpa [spreadL] using T''
    · repeat (first | (with_reducible apply Tl.val; focus (simp (disch := omega) only [coreA, Int.reduceBEq, base_N1] <;> with_reducible rfl)) | (with_reducible first | refine Tl.brT ?_ | refine Tl.brF ?_ | refine Tl.gd_on ?_ | refine Tl.gd3_on ?_) | ((with_reducible first | apply Tl.brC | apply Tl.gdC | apply Tl.gd3C); focus (simp (disch := omega) only [coreA, Int.reduceBEq, base_N1] <;> with_reducible rfl)))
      refine Tl.push T 0 rfl app25 (bs25 _ _) rfl rfl (by rw [irows_len]; omega) fun ov' h' T' => ?_
      repeat (first | (with_reducible apply Tl.val; focus (simp (disch := omega) only [coreA, Int.reduceBEq, base_N1] <;> with_reducible rfl)) | (with_reducible first | refine Tl.brT ?_ | refine Tl.brF ?_ | refine Tl.gd_on ?_ | refine Tl.gd3_on ?_) | ((with_reducible first | apply Tl.brC | apply Tl.gdC | apply Tl.gd3C); focus (simp (disch := omega) only [coreA, Int.reduceBEq, base_N1] <;> with_reducible rfl)))
      rw [e]
      refine ih (done := done ++ [-1]) (by omega) (by omega) (by omega) (by simp [hd]) (by simpa [irows, iv] using T') fun h'' ov'' y y' y'' T'' => ?_
      refine hk _ _ _ _ _ ?_
      rw [drop_cons hx]
      simpa [spreadL] using T''
def spreadV (l : List Bool) (values : Int) : List Int := if (l.length : Int) - cnt l = values then spreadL 0 l else []
theorem f10c {k : Nat} {h : AH} {v : Value} {l : List Bool} (S : Bools h v l) (hl : l.length ≤ 2 ^ 30) (hk : l.length < k) (values : Int) :
    Tl (eInv env (k + 3) (.func 10) #[] #[v, .int .i64 values] h) fun r => OwnB Try.prog h.n r.2 r.1 1 (irows (spreadV l values)) ∧ Grow h r.2 := by
  rw [F10_call]
  unfold F10
  have hlen : ∀ h', pLen Try.prog #[22] v h' = some (.int .i64 l.length) := fun h' => Sl1.len S u22
  have hc := f9c (k := k) S (by omega) hk
  have := cnt_le l
  unfold spreadV
  by_cases e : (l.length : Int) - cnt l = values
  · rw [if_pos e]
    repeat (first | (with_reducible apply Tl.val; focus (simp (disch := omega) only [coreA, Int.reduceBEq, base_N1, hlen, hc] <;> with_reducible rfl)) | (with_reducible first | refine Tl.brT ?_ | refine Tl.brF ?_ | refine Tl.gd_on ?_ | refine Tl.gd3_on ?_) | ((with_reducible first | apply Tl.brC | apply Tl.gdC | apply Tl.gd3C); focus (simp (disch := omega) only [coreA, Int.reduceBEq, base_N1, hlen, hc] <;> with_reducible rfl)))
    refine f10_loop S hl l.length (i := 0) (c := 0) (done := []) (by omega) (by omega) (by omega) rfl ((Stt.init h).nil 1) fun h' ov' y y' y'' T => ?_
    exact ⟨_, rfl, by simpa using T.ret 0 rfl, T.grow⟩
  · rw [if_neg e]
    repeat (first | (with_reducible apply Tl.val; focus (simp (disch := omega) only [coreA, Int.reduceBEq, base_N1, hlen, hc] <;> with_reducible rfl)) | (with_reducible first | refine Tl.brT ?_ | refine Tl.brF ?_ | refine Tl.gd_on ?_ | refine Tl.gd3_on ?_) | ((with_reducible first | apply Tl.brC | apply Tl.gdC | apply Tl.gd3C); focus (simp (disch := omega) only [coreA, Int.reduceBEq, base_N1, hlen, hc] <;> with_reducible rfl)))
    exact ⟨_, rfl, .inl ⟨rfl, rfl⟩, Grow.refl _⟩
/-- 'Same' of truths, of numbers. -/
theorem f12_loop {β : Type} {k : Nat} {Q : β → Prop} {h : AH} {v w : Value} {l m : List Bool} (S : Bools h v l) (T : Bools h w m) (hlm : l.length = m.length) (hl : l.length ≤ 2 ^ 40) {ke0 : Value → Value → Value → Value → AH → Option β} {kr : Value → AH → Option β} (n : Nat) :
    ∀ {i j : Nat}, i + n = l.length → n < j → (l.drop i = m.drop i → ∀ y y', Tl (ke0 v w y y' h) Q) → (l.drop i ≠ m.drop i → Tl (kr (.bool false) h) Q) → Tl (F12_lrlrr (eInv env k) k j v w (.int .i64 i) h ke0 kr) Q := by
  have hlen : ∀ h', pLen Try.prog #[22] v h' = some (.int .i64 l.length) := fun h' => Sl1.len S u22
  induction n with
  | zero =>
    intro i j hi hj hk hr
    obtain ⟨j, rfl⟩ : ∃ q, j = q + 1 := ⟨j - 1, by omega⟩
    simp only [F12_lrlrr]
    repeat (first | (with_reducible apply Tl.val; focus (simp (disch := omega) only [coreA, Int.reduceBEq, base_N1, hlen] <;> with_reducible rfl)) | (with_reducible first | refine Tl.brT ?_ | refine Tl.brF ?_ | refine Tl.gd_on ?_ | refine Tl.gd3_on ?_) | ((with_reducible first | apply Tl.brC | apply Tl.gdC | apply Tl.gd3C); focus (simp (disch := omega) only [coreA, Int.reduceBEq, base_N1, hlen] <;> with_reducible rfl)))
    exact hk (by rw [List.drop_eq_nil_of_le (by omega), List.drop_eq_nil_of_le (by omega)]) _ _
  | succ n ih =>
    intro i j hi hj hk hr
    obtain ⟨j, rfl⟩ : ∃ q, j = q + 1 := ⟨j - 1, by omega⟩
    obtain ⟨x, hx⟩ : ∃ x, l[i]? = some x := ⟨_, List.getElem?_eq_getElem (by omega)⟩
    obtain ⟨y, hy⟩ : ∃ x, m[i]? = some x := ⟨_, List.getElem?_eq_getElem (by omega)⟩
    obtain ⟨b, o, hp, hc⟩ := Sl1.at_ S (t := 22) (k := .i64) hx u22 sz4
    obtain ⟨b2, o2, hp2, hc2⟩ := Sl1.at_ T (t := 22) (k := .i64) hy u22 sz4
    have hc := hc h (Grow.refl _)
    have hc2 := hc2 h (Grow.refl _)
    rw [drop_cons hx, drop_cons hy] at hk hr
    have e : (i : Int) + 1 = ((i + 1 : Nat) : Int) := by omega
    simp only [F12_lrlrr]
    repeat (first | (with_reducible apply Tl.val; focus (simp (disch := omega) only [coreA, Int.reduceBEq, base_N1, hlen, hp, hc, hp2, hc2, bv] <;> with_reducible rfl)) | (with_reducible first | refine Tl.brT ?_ | refine Tl.brF ?_ | refine Tl.gd_on ?_ | refine Tl.gd3_on ?_) | ((with_reducible first | apply Tl.brC | apply Tl.gdC | apply Tl.gd3C); focus (simp (disch := omega) only [coreA, Int.reduceBEq, base_N1, hlen, hp, hc, hp2, hc2, bv] <;> with_reducible rfl)))
    cases q : (x == y)
    · simp only [Bool.not_false]
      repeat (first | (with_reducible apply Tl.val; focus (simp (disch := omega) only [coreA, Int.reduceBEq, base_N1] <;> with_reducible rfl)) | (with_reducible first | refine Tl.brT ?_ | refine Tl.brF ?_ | refine Tl.gd_on ?_ | refine Tl.gd3_on ?_) | ((with_reducible first | apply Tl.brC | apply Tl.gdC | apply Tl.gd3C); focus (simp (disch := omega) only [coreA, Int.reduceBEq, base_N1] <;> with_reducible rfl)))
      exact hr (by simp at q; simp [q])
    · simp only [Bool.not_true]
      repeat (first | (with_reducible apply Tl.val; focus (simp (disch := omega) only [coreA, Int.reduceBEq, base_N1] <;> with_reducible rfl)) | (with_reducible first | refine Tl.brT ?_ | refine Tl.brF ?_ | refine Tl.gd_on ?_ | refine Tl.gd3_on ?_) | ((with_reducible first | apply Tl.brC | apply Tl.gdC | apply Tl.gd3C); focus (simp (disch := omega) only [coreA, Int.reduceBEq, base_N1] <;> with_reducible rfl)))
      rw [e]
      have : x = y := by simpa using q
      subst this
      exact ih (by omega) (by omega) (fun q => hk (by rw [q])) (fun q => hr (by simpa using q))
theorem f12c {k : Nat} {h : AH} {v w : Value} {l m : List Bool} (S : Bools h v l) (T : Bools h w m) (hl : l.length ≤ 2 ^ 40) (hm : m.length ≤ 2 ^ 40) (hk : l.length < k) : eInv env (k + 1) (.func 12) #[] #[v, w] h = some (.bool (decide (l = m)), h) := by
  have T : Tl (F12 (eInv env k) k v w h) fun r => r = (.bool (decide (l = m)), h) := by
    have hlen : ∀ h', pLen Try.prog #[22] v h' = some (.int .i64 l.length) := fun h' => Sl1.len S u22
    have hlen2 : ∀ h', pLen Try.prog #[22] w h' = some (.int .i64 m.length) := fun h' => Sl1.len T u22
    unfold F12
    by_cases e : l.length = m.length
    · repeat (first | (with_reducible apply Tl.val; focus (simp (disch := omega) only [coreA, Int.reduceBEq, base_N1, hlen, hlen2] <;> with_reducible rfl)) | (with_reducible first | refine Tl.brT ?_ | refine Tl.brF ?_ | refine Tl.gd_on ?_ | refine Tl.gd3_on ?_) | ((with_reducible first | apply Tl.brC | apply Tl.gdC | apply Tl.gd3C); focus (simp (disch := omega) only [coreA, Int.reduceBEq, base_N1, hlen, hlen2] <;> with_reducible rfl)))
      refine f12_loop S T e hl l.length (i := 0) (by omega) (by omega) (fun q y y' => ⟨_, rfl, ?_⟩) (fun q => ⟨_, rfl, ?_⟩)
      · have : l = m := by simpa using q
        simp [this]
      · have : l ≠ m := by simpa using q
        simp [this]
    · repeat (first | (with_reducible apply Tl.val; focus (simp (disch := omega) only [coreA, Int.reduceBEq, base_N1, hlen, hlen2] <;> with_reducible rfl)) | (with_reducible first | refine Tl.brT ?_ | refine Tl.brF ?_ | refine Tl.gd_on ?_ | refine Tl.gd3_on ?_) | ((with_reducible first | apply Tl.brC | apply Tl.gdC | apply Tl.gd3C); focus (simp (disch := omega) only [coreA, Int.reduceBEq, base_N1, hlen, hlen2] <;> with_reducible rfl)))
      have : l ≠ m := fun q => e (by rw [q])
      exact ⟨_, rfl, by simp [this]⟩
  obtain ⟨r, h1, h2⟩ := T
  rw [F12_call, h1, h2]
theorem f13_loop {β : Type} {k : Nat} {Q : β → Prop} {h : AH} {v w : Value} {l m : List Int} (S : Nums h v l) (T : Nums h w m) (hlm : l.length = m.length) (hl : l.length ≤ 2 ^ 40) {ke0 : Value → Value → Value → Value → AH → Option β} {kr : Value → AH → Option β} (n : Nat) :
    ∀ {i j : Nat}, i + n = l.length → n < j → (l.drop i = m.drop i → ∀ y y', Tl (ke0 v w y y' h) Q) → (l.drop i ≠ m.drop i → Tl (kr (.bool false) h) Q) → Tl (F13_lrlrr (eInv env k) k j v w (.int .i64 i) h ke0 kr) Q := by
  have hlen : ∀ h', pLen Try.prog #[25] v h' = some (.int .i64 l.length) := fun h' => Sl1.len S u25
  induction n with
  | zero =>
    intro i j hi hj hk hr
    obtain ⟨j, rfl⟩ : ∃ q, j = q + 1 := ⟨j - 1, by omega⟩
    simp only [F13_lrlrr]
    repeat (first | (with_reducible apply Tl.val; focus (simp (disch := omega) only [coreA, Int.reduceBEq, base_N1, hlen] <;> with_reducible rfl)) | (with_reducible first | refine Tl.brT ?_ | refine Tl.brF ?_ | refine Tl.gd_on ?_ | refine Tl.gd3_on ?_) | ((with_reducible first | apply Tl.brC | apply Tl.gdC | apply Tl.gd3C); focus (simp (disch := omega) only [coreA, Int.reduceBEq, base_N1, hlen] <;> with_reducible rfl)))
    exact hk (by rw [List.drop_eq_nil_of_le (by omega), List.drop_eq_nil_of_le (by omega)]) _ _
  | succ n ih =>
    intro i j hi hj hk hr
    obtain ⟨j, rfl⟩ : ∃ q, j = q + 1 := ⟨j - 1, by omega⟩
    obtain ⟨x, hx⟩ : ∃ x, l[i]? = some x := ⟨_, List.getElem?_eq_getElem (by omega)⟩
    obtain ⟨y, hy⟩ : ∃ x, m[i]? = some x := ⟨_, List.getElem?_eq_getElem (by omega)⟩
    obtain ⟨b, o, hp, hc⟩ := Sl1.at_ S (t := 25) (k := .i64) hx u25 sz3
    obtain ⟨b2, o2, hp2, hc2⟩ := Sl1.at_ T (t := 25) (k := .i64) hy u25 sz3
    have hc := hc h (Grow.refl _)
    have hc2 := hc2 h (Grow.refl _)
    rw [drop_cons hx, drop_cons hy] at hk hr
    have e : (i : Int) + 1 = ((i + 1 : Nat) : Int) := by omega
    simp only [F13_lrlrr]
    repeat (first | (with_reducible apply Tl.val; focus (simp (disch := omega) only [coreA, Int.reduceBEq, base_N1, hlen, hp, hc, hp2, hc2, iv] <;> with_reducible rfl)) | (with_reducible first | refine Tl.brT ?_ | refine Tl.brF ?_ | refine Tl.gd_on ?_ | refine Tl.gd3_on ?_) | ((with_reducible first | apply Tl.brC | apply Tl.gdC | apply Tl.gd3C); focus (simp (disch := omega) only [coreA, Int.reduceBEq, base_N1, hlen, hp, hc, hp2, hc2, iv] <;> with_reducible rfl)))
    by_cases q : x = y
    · repeat (first | (with_reducible apply Tl.val; focus (simp (disch := omega) only [coreA, Int.reduceBEq, base_N1] <;> with_reducible rfl)) | (with_reducible first | refine Tl.brT ?_ | refine Tl.brF ?_ | refine Tl.gd_on ?_ | refine Tl.gd3_on ?_) | ((with_reducible first | apply Tl.brC | apply Tl.gdC | apply Tl.gd3C); focus (simp (disch := omega) only [coreA, Int.reduceBEq, base_N1] <;> with_reducible rfl)))
      rw [e]
      subst q
      exact ih (by omega) (by omega) (fun q => hk (by rw [q])) (fun q => hr (by simpa using q))
    · repeat (first | (with_reducible apply Tl.val; focus (simp (disch := omega) only [coreA, Int.reduceBEq, base_N1] <;> with_reducible rfl)) | (with_reducible first | refine Tl.brT ?_ | refine Tl.brF ?_ | refine Tl.gd_on ?_ | refine Tl.gd3_on ?_) | ((with_reducible first | apply Tl.brC | apply Tl.gdC | apply Tl.gd3C); focus (simp (disch := omega) only [coreA, Int.reduceBEq, base_N1] <;> with_reducible rfl)))
      exact hr (by simp [q])
theorem f13c {k : Nat} {h : AH} {v w : Value} {l m : List Int} (S : Nums h v l) (T : Nums h w m) (hl : l.length ≤ 2 ^ 40) (hm : m.length ≤ 2 ^ 40) (hk : l.length < k) : eInv env (k + 1) (.func 13) #[] #[v, w] h = some (.bool (decide (l = m)), h) := by
  have T : Tl (F13 (eInv env k) k v w h) fun r => r = (.bool (decide (l = m)), h) := by
    have hlen : ∀ h', pLen Try.prog #[25] v h' = some (.int .i64 l.length) := fun h' => Sl1.len S u25
    have hlen2 : ∀ h', pLen Try.prog #[25] w h' = some (.int .i64 m.length) := fun h' => Sl1.len T u25
    unfold F13
    by_cases e : l.length = m.length
    · repeat (first | (with_reducible apply Tl.val; focus (simp (disch := omega) only [coreA, Int.reduceBEq, base_N1, hlen, hlen2] <;> with_reducible rfl)) | (with_reducible first | refine Tl.brT ?_ | refine Tl.brF ?_ | refine Tl.gd_on ?_ | refine Tl.gd3_on ?_) | ((with_reducible first | apply Tl.brC | apply Tl.gdC | apply Tl.gd3C); focus (simp (disch := omega) only [coreA, Int.reduceBEq, base_N1, hlen, hlen2] <;> with_reducible rfl)))
      refine f13_loop S T e hl l.length (i := 0) (by omega) (by omega) (fun q y y' => ⟨_, rfl, ?_⟩) (fun q => ⟨_, rfl, ?_⟩)
      · have : l = m := by simpa using q
        simp [this]
      · have : l ≠ m := by simpa using q
        simp [this]
    · repeat (first | (with_reducible apply Tl.val; focus (simp (disch := omega) only [coreA, Int.reduceBEq, base_N1, hlen, hlen2] <;> with_reducible rfl)) | (with_reducible first | refine Tl.brT ?_ | refine Tl.brF ?_ | refine Tl.gd_on ?_ | refine Tl.gd3_on ?_) | ((with_reducible first | apply Tl.brC | apply Tl.gdC | apply Tl.gd3C); focus (simp (disch := omega) only [coreA, Int.reduceBEq, base_N1, hlen, hlen2] <;> with_reducible rfl)))
      have : l ≠ m := fun q => e (by rw [q])
      exact ⟨_, rfl, by simp [this]⟩
  obtain ⟨r, h1, h2⟩ := T
  rw [F13_call, h1, h2]
end Go.Proofs.Ytoleebigheobcaa.Sh
