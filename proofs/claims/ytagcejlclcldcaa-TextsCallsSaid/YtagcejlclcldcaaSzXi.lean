/- The document's answer for texts: what is put. -/
import Derived.Test.YtagcejlclcldcaaSzXf
import Derived.Test.YtagcejlclcldcaaSzXh
import Derived.Test.YtagcejlclcldcaaSzRc
import Derived.Test.YtagcejlclcldcaaSzRp
set_option linter.unusedVariables false
set_option linter.unusedSimpArgs false
set_option maxRecDepth 100000
namespace Go.Proofs.Ytagcejlclcldcaa.Sh
open Go Go.RowKit Go.Proofs.Ev
theorem base_Xi : type_of% (And.intro @ld3 (And.intro @ld9 (And.intro @ld22 (And.intro @ld30 (And.intro @ld48 (And.intro (fun a h => conv_int (a := a) (h := h) u3 u48) (And.intro (fun a h => conv_int (a := a) (h := h) u3 u5) (And.intro @Nat.add_zero (And.intro @ex2_0 (@ex2_1)))))))))) := And.intro @ld3 (And.intro @ld9 (And.intro @ld22 (And.intro @ld30 (And.intro @ld48 (And.intro (fun a h => conv_int (a := a) (h := h) u3 u48) (And.intro (fun a h => conv_int (a := a) (h := h) u3 u5) (And.intro @Nat.add_zero (And.intro @ex2_0 (@ex2_1)))))))))
section
variable {β : Type} {Q : β → Prop} {n0 : Nat} {h0 h : AH} {L : List (Nat × AO)} {O : List OS}
theorem f41_loop {inv : Inv} {k : Nat} {v : Value} {l : List ByteArray} (A : Strs h v l) (hl : l.length ≤ 2 ^ 40) {ke0 : Value → Value → Value → AH → Option β} {kr : Value → AH → Option β} (n : Nat) :
    ∀ {i j : Nat}, i + n = l.length → n < j → ((l.drop i).any longS = false → ∀ y1 y2, Tl (ke0 v y1 y2 h) Q) → ((l.drop i).any longS = true → Tl (kr (.int .i64 3) h) Q) → Tl (F41_lrlrr inv k j v (.int .i64 i) h ke0 kr) Q := by
  have ll : ∀ h', pLen Try.prog #[22] v h' = some (.int .i64 l.length) := fun h' => A.len
  induction n with
  | zero =>
    intro i j hi hj hk hr
    obtain ⟨j, rfl⟩ : ∃ q, j = q + 1 := ⟨j - 1, by omega⟩
    simp only [F41_lrlrr]
    repeat (first | (with_reducible apply Tl.val; focus (simp (disch := omega) only [coreA, Int.reduceBEq, base_Xi, ll] <;> with_reducible rfl)) | (with_reducible first | refine Tl.brT ?_ | refine Tl.brF ?_ | refine Tl.gd_on ?_ | refine Tl.gd3_on ?_) | ((with_reducible first | apply Tl.brC | apply Tl.gdC | apply Tl.gd3C); focus (simp (disch := omega) only [coreA, Int.reduceBEq, base_Xi, ll] <;> with_reducible rfl)))
    rw [List.drop_eq_nil_of_le (by omega)] at hk
    exact hk rfl _ _
  | succ n ih =>
    intro i j hi hj hk hr
    obtain ⟨j, rfl⟩ : ∃ q, j = q + 1 := ⟨j - 1, by omega⟩
    obtain ⟨x, ex⟩ : ∃ x, l[i]? = some x := ⟨_, List.getElem?_eq_getElem (by omega)⟩
    obtain ⟨b, o, hp, hc⟩ := A.at_ (k := .i64) ex
    have hc := hc h (Grow.refl _)
    have hd : l.drop i = x :: l.drop (i + 1) := by rw [List.drop_eq_getElem?_toList_append, ex]; rfl
    rw [hd, List.any_cons] at hk hr
    have e : (i : Int) + 1 = ((i + 1 : Nat) : Int) := by omega
    simp only [F41_lrlrr]
    by_cases q : (x.size : Int) > 65536
    · have q2 : longS x = true := decide_eq_true q
      repeat (first | (with_reducible apply Tl.val; focus (simp (disch := omega) only [coreA, Int.reduceBEq, base_Xi, ll, hp, hc, len_s] <;> with_reducible rfl)) | (with_reducible first | refine Tl.brT ?_ | refine Tl.brF ?_ | refine Tl.gd_on ?_ | refine Tl.gd3_on ?_) | ((with_reducible first | apply Tl.brC | apply Tl.gdC | apply Tl.gd3C); focus (simp (disch := omega) only [coreA, Int.reduceBEq, base_Xi, ll, hp, hc, len_s] <;> with_reducible rfl)))
      exact hr (by rw [q2]; rfl)
    · have q2 : longS x = false := decide_eq_false q
      repeat (first | (with_reducible apply Tl.val; focus (simp (disch := omega) only [coreA, Int.reduceBEq, base_Xi, ll, hp, hc, len_s] <;> with_reducible rfl)) | (with_reducible first | refine Tl.brT ?_ | refine Tl.brF ?_ | refine Tl.gd_on ?_ | refine Tl.gd3_on ?_) | ((with_reducible first | apply Tl.brC | apply Tl.gdC | apply Tl.gd3C); focus (simp (disch := omega) only [coreA, Int.reduceBEq, base_Xi, ll, hp, hc, len_s] <;> with_reducible rfl)))
      rw [e]
      exact ih (by omega) (by omega) (fun h => hk (by rw [q2, h]; rfl)) (fun h => hr (by rw [h]; simp))
theorem f41c {k : Nat} {h : AH} {v : Value} {l : List ByteArray} (A : Strs h v l) (hl : l.length ≤ 9223372036854775807) (hk : 4096 < k) : eInv env (k + 1) (.func 41) #[] #[v] h = some (.int .i64 (checkT l), h) := by
  have T : Tl (F41 (eInv env k) k v h) fun r => r = (.int .i64 (checkT l), h) := by
    unfold F41
    have ll : ∀ h', pLen Try.prog #[22] v h' = some (.int .i64 l.length) := fun h' => A.len
    by_cases q : l.length ≤ 4096
    · repeat (first | (with_reducible apply Tl.val; focus (simp (disch := omega) only [coreA, Int.reduceBEq, base_Xi, ll] <;> with_reducible rfl)) | (with_reducible first | refine Tl.brT ?_ | refine Tl.brF ?_ | refine Tl.gd_on ?_ | refine Tl.gd3_on ?_) | ((with_reducible first | apply Tl.brC | apply Tl.gdC | apply Tl.gd3C); focus (simp (disch := omega) only [coreA, Int.reduceBEq, base_Xi, ll] <;> with_reducible rfl)))
      refine f41_loop A (by omega) l.length (i := 0) (by omega) (by omega) (fun hq y1 y2 => ⟨_, rfl, ?_⟩) (fun hq => ⟨_, rfl, ?_⟩)
      · rw [List.drop_zero] at hq
        unfold checkT mayT
        rw [hq]
        simp [q]
      · rw [List.drop_zero] at hq
        unfold checkT mayT
        rw [hq]
        simp
    · repeat (first | (with_reducible apply Tl.val; focus (simp (disch := omega) only [coreA, Int.reduceBEq, base_Xi, ll] <;> with_reducible rfl)) | (with_reducible first | refine Tl.brT ?_ | refine Tl.brF ?_ | refine Tl.gd_on ?_ | refine Tl.gd3_on ?_) | ((with_reducible first | apply Tl.brC | apply Tl.gdC | apply Tl.gd3C); focus (simp (disch := omega) only [coreA, Int.reduceBEq, base_Xi, ll] <;> with_reducible rfl)))
      exact ⟨_, rfl, by unfold checkT mayT; simp [q]⟩
  obtain ⟨r, h1, h2⟩ := T
  rw [F41_call, h1, h2]
theorem f43c {k : Nat} {v : Value} {l : List Nat} {s : ByteArray} (hs : s.size ≤ 2 ^ 29) (hl : l.length ≤ 2 ^ 29) (S : Stt Try.prog n0 h0 h L ((v, 1, u8rows l) :: O)) :
    Tl (eInv env (k + 21) (.func 43) #[] #[v, .string s] h) fun r => Stt Try.prog n0 h0 r.2 L ((r.1, 1, u8rows (l ++ textP s)) :: O) := by
  rw [F43_call]
  unfold F43
  repeat (first | (with_reducible apply Tl.val; focus (simp (disch := omega) only [coreA, Int.reduceBEq, base_Xi, len_s] <;> with_reducible rfl)) | (with_reducible first | refine Tl.brT ?_ | refine Tl.brF ?_ | refine Tl.gd_on ?_ | refine Tl.gd3_on ?_) | ((with_reducible first | apply Tl.brC | apply Tl.gdC | apply Tl.gd3C); focus (simp (disch := omega) only [coreA, Int.reduceBEq, base_Xi, len_s] <;> with_reducible rfl)))
  refine Tl.bind (f42c (k := k) s.size (by omega) hl S) ?_
  rintro ⟨v', h'⟩ S'
  simp only at S'
  have h10 := pvarN_le10 (n := s.size) (by omega)
  refine Tl.appendS S' 0 rfl appStr (by rw [u8rows_len, List.length_append]; omega) fun v'' h'' S'' => ?_
  repeat (first | (with_reducible apply Tl.val; focus (simp (disch := omega) only [coreA, Int.reduceBEq, base_Xi] <;> with_reducible rfl)) | (with_reducible first | refine Tl.brT ?_ | refine Tl.brF ?_ | refine Tl.gd_on ?_ | refine Tl.gd3_on ?_) | ((with_reducible first | apply Tl.brC | apply Tl.gdC | apply Tl.gd3C); focus (simp (disch := omega) only [coreA, Int.reduceBEq, base_Xi] <;> with_reducible rfl)))
  refine ⟨_, rfl, ?_⟩
  have e : u8rows (l ++ textP s) = u8rows (l ++ pvarN s.size) ++ (bytesN s).map fun x : Nat => [Value.int .u8 (x : Int)] := by
    unfold textP
    rw [← List.append_assoc]
    exact List.map_append
  rw [e]
  exact S''
theorem f20_loop {k : Nat} {v : Value} {l : List ByteArray} (A : Strs h0 v l) (hl : l.length ≤ 4096) (hs : ∀ x ∈ l, x.size ≤ 65536) {ke0 : Value → Value → Value → Value → AH → Option β} (n : Nat) :
    ∀ {i j : Nat} {h : AH} {ov : Value} {out : List Nat}, i + n = l.length → n < j → out.length ≤ 20 + i * 65546 → Stt Try.prog h0.n h0 h L ((ov, 1, u8rows out) :: O) →
      (∀ h' y y1 y2, Stt Try.prog h0.n h0 h' L ((y, 1, u8rows (out ++ (l.drop i).flatMap textP)) :: O) → Tl (ke0 v y y1 y2 h') Q) →
      Tl (F20_lrlrrrr (eInv env (k + 21)) (k + 21) j v ov (.int .i64 i) h ke0) Q := by
  have ll : ∀ h', pLen Try.prog #[22] v h' = some (.int .i64 l.length) := fun h' => A.len
  induction n with
  | zero =>
    intro i j h ov out hi hj ho S hk
    obtain ⟨j, rfl⟩ : ∃ q, j = q + 1 := ⟨j - 1, by omega⟩
    simp only [F20_lrlrrrr]
    repeat (first | (with_reducible apply Tl.val; focus (simp (disch := omega) only [coreA, Int.reduceBEq, base_Xi, ll] <;> with_reducible rfl)) | (with_reducible first | refine Tl.brT ?_ | refine Tl.brF ?_ | refine Tl.gd_on ?_ | refine Tl.gd3_on ?_) | ((with_reducible first | apply Tl.brC | apply Tl.gdC | apply Tl.gd3C); focus (simp (disch := omega) only [coreA, Int.reduceBEq, base_Xi, ll] <;> with_reducible rfl)))
    rw [List.drop_eq_nil_of_le (by omega)] at hk
    refine hk _ _ _ _ ?_
    simpa using S
  | succ n ih =>
    intro i j h ov out hi hj ho S hk
    obtain ⟨j, rfl⟩ : ∃ q, j = q + 1 := ⟨j - 1, by omega⟩
    obtain ⟨x, ex⟩ : ∃ x, l[i]? = some x := ⟨_, List.getElem?_eq_getElem (by omega)⟩
    obtain ⟨b, o, hp, hc⟩ := (A.grow S.grow).at_ (k := .i64) ex
    have hc := hc h (Grow.refl _)
    have hx := hs x (List.mem_of_getElem? ex)
    have hd : l.drop i = x :: l.drop (i + 1) := by rw [List.drop_eq_getElem?_toList_append, ex]; rfl
    have e : (i : Int) + 1 = ((i + 1 : Nat) : Int) := by omega
    simp only [F20_lrlrrrr]
    repeat (first | (with_reducible apply Tl.val; focus (simp (disch := omega) only [coreA, Int.reduceBEq, base_Xi, ll, hp, hc] <;> with_reducible rfl)) | (with_reducible first | refine Tl.brT ?_ | refine Tl.brF ?_ | refine Tl.gd_on ?_ | refine Tl.gd3_on ?_) | ((with_reducible first | apply Tl.brC | apply Tl.gdC | apply Tl.gd3C); focus (simp (disch := omega) only [coreA, Int.reduceBEq, base_Xi, ll, hp, hc] <;> with_reducible rfl)))
    have him : i * 65546 ≤ 4096 * 65546 := Nat.mul_le_mul_right _ (by omega)
    refine Tl.bind (f43c (k := k) (s := x) (by omega) (by omega) S) ?_
    rintro ⟨v', h'⟩ S'
    simp only at S'
    have ht := textP_len x (by omega)
    repeat (first | (with_reducible apply Tl.val; focus (simp (disch := omega) only [coreA, Int.reduceBEq, base_Xi] <;> with_reducible rfl)) | (with_reducible first | refine Tl.brT ?_ | refine Tl.brF ?_ | refine Tl.gd_on ?_ | refine Tl.gd3_on ?_) | ((with_reducible first | apply Tl.brC | apply Tl.gdC | apply Tl.gd3C); focus (simp (disch := omega) only [coreA, Int.reduceBEq, base_Xi] <;> with_reducible rfl)))
    rw [e]
    refine ih (out := out ++ textP x) (by omega) (by omega) (by rw [List.length_append]; omega) S' fun h' y y1 y2 S'' => hk h' y y1 y2 ?_
    rw [hd, List.flatMap_cons, ← List.append_assoc]
    exact S''
theorem f20c {k : Nat} {v : Value} {l : List ByteArray} (A : Strs h v l) (hl : l.length ≤ 9223372036854775807) (hk : 4096 < k + 18) :
    Tl (eInv env (k + 22) (.func 20) #[] #[v] h) fun r => ∃ v', r.1 = .tuple #[v', .int .i64 (checkT l)] ∧ Stt Try.prog h.n h r.2 [] [(v', 1, u8rows (plainG l))] := by
  rw [F20_call]
  unfold F20
  have hc := f41c (k := k + 20) A hl (by omega)
  have ll : ∀ h', pLen Try.prog #[22] v h' = some (.int .i64 l.length) := fun h' => A.len
  unfold checkT plainG at *
  cases q : mayT l
  · rw [q] at hc
    simp only [Bool.false_eq_true, if_false] at hc ⊢
    repeat (first | (with_reducible apply Tl.val; focus (simp (disch := omega) only [coreA, Int.reduceBEq, base_Xi, hc] <;> with_reducible rfl)) | (with_reducible first | refine Tl.brT ?_ | refine Tl.brF ?_ | refine Tl.gd_on ?_ | refine Tl.gd3_on ?_) | ((with_reducible first | apply Tl.brC | apply Tl.gdC | apply Tl.gd3C); focus (simp (disch := omega) only [coreA, Int.reduceBEq, base_Xi, hc] <;> with_reducible rfl)))
    exact ⟨_, rfl, _, rfl, (Stt.init h).nil 1⟩
  · rw [q] at hc
    simp only [if_true] at hc ⊢
    obtain ⟨q1, q2⟩ := mayT_spec.1 q
    repeat (first | (with_reducible apply Tl.val; focus (simp (disch := omega) only [coreA, Int.reduceBEq, base_Xi, hc, bs30, ll] <;> with_reducible rfl)) | (with_reducible first | refine Tl.brT ?_ | refine Tl.brF ?_ | refine Tl.gd_on ?_ | refine Tl.gd3_on ?_) | ((with_reducible first | apply Tl.brC | apply Tl.gdC | apply Tl.gd3C); focus (simp (disch := omega) only [coreA, Int.reduceBEq, base_Xi, hc, bs30, ll] <;> with_reducible rfl)))
    have S0 : Stt Try.prog h.n h (h.alloc (.cells (u8rows [1]).flatten 5 true)) [(h.n, .cells (u8rows [1]).flatten 5 true)] [] := (Stt.init h).alloc _
    have S1 := S0.absorb (n := 1) (u8v_wide [1]) sz5
    refine Tl.bind (f42c (k := k + 1) l.length (by omega) (by simp) S1) ?_
    rintro ⟨v2, h2⟩ S2
    simp only at S2
    have h10 := pvarN_le10 (n := l.length) (by omega)
    refine f20_loop (k := k) A q1 q2 l.length (i := 0) (out := [1] ++ pvarN l.length) (by omega) (by omega) (by simp; omega) S2 fun h' y y1 y2 S' => ?_
    refine ⟨_, rfl, _, rfl, ?_⟩
    unfold plainT
    rw [List.drop_zero] at S'
    simpa using S'
theorem f21_l1 {k : Nat} {wv x0 : Value} {w : List ByteArray} (hl : w.length ≤ 4096) (hs : ∀ x ∈ w, x.size ≤ 65536) {ke0 : Value → Value → Value → Value → Value → AH → Option β} (n : Nat) :
    ∀ {i j : Nat} {h : AH} {ov : Value} {out : List Nat}, i + n = w.length → n < j → out.length ≤ 40 + i * 65546 → Stt Try.prog n0 h0 h L ((ov, 1, u8rows out) :: (wv, 1, srows w) :: O) →
      (∀ h' y y1 y2, Stt Try.prog n0 h0 h' L ((y, 1, u8rows (out ++ (w.drop i).flatMap textP)) :: (wv, 1, srows w) :: O) → (out ++ (w.drop i).flatMap textP).length ≤ 40 + w.length * 65546 → Tl (ke0 x0 wv y y1 y2 h') Q) →
      Tl (F21_lrlrrrrrr (eInv env (k + 21)) (k + 21) j x0 wv ov (.int .i64 i) h ke0) Q := by
  induction n with
  | zero =>
    intro i j h ov out hi hj ho S hk
    obtain ⟨j, rfl⟩ : ∃ q, j = q + 1 := ⟨j - 1, by omega⟩
    simp only [F21_lrlrrrrrr]
    have lw : ∀ h', pLen Try.prog #[22] wv h' = some (.int .i64 w.length) := fun h' => (Stt.strs S 1 rfl).len
    repeat (first | (with_reducible apply Tl.val; focus (simp (disch := omega) only [coreA, Int.reduceBEq, base_Xi, lw] <;> with_reducible rfl)) | (with_reducible first | refine Tl.brT ?_ | refine Tl.brF ?_ | refine Tl.gd_on ?_ | refine Tl.gd3_on ?_) | ((with_reducible first | apply Tl.brC | apply Tl.gdC | apply Tl.gd3C); focus (simp (disch := omega) only [coreA, Int.reduceBEq, base_Xi, lw] <;> with_reducible rfl)))
    obtain rfl : i = w.length := by omega
    rw [List.drop_eq_nil_of_le (Nat.le_refl _)] at hk
    simp only [List.flatMap_nil, List.append_nil] at hk
    exact hk _ _ _ _ S ho
  | succ n ih =>
    intro i j h ov out hi hj ho S hk
    obtain ⟨j, rfl⟩ : ∃ q, j = q + 1 := ⟨j - 1, by omega⟩
    obtain ⟨x, ex⟩ : ∃ x, w[i]? = some x := ⟨_, List.getElem?_eq_getElem (by omega)⟩
    obtain ⟨b, o, hp, hc⟩ := (Stt.strs S 1 rfl).at_ (k := .i64) ex
    have hc := hc h (Grow.refl _)
    have hx := hs x (List.mem_of_getElem? ex)
    have hd : w.drop i = x :: w.drop (i + 1) := by rw [List.drop_eq_getElem?_toList_append, ex]; rfl
    have e : (i : Int) + 1 = ((i + 1 : Nat) : Int) := by omega
    simp only [F21_lrlrrrrrr]
    have lw : ∀ h', pLen Try.prog #[22] wv h' = some (.int .i64 w.length) := fun h' => (Stt.strs S 1 rfl).len
    repeat (first | (with_reducible apply Tl.val; focus (simp (disch := omega) only [coreA, Int.reduceBEq, base_Xi, lw, hp, hc] <;> with_reducible rfl)) | (with_reducible first | refine Tl.brT ?_ | refine Tl.brF ?_ | refine Tl.gd_on ?_ | refine Tl.gd3_on ?_) | ((with_reducible first | apply Tl.brC | apply Tl.gdC | apply Tl.gd3C); focus (simp (disch := omega) only [coreA, Int.reduceBEq, base_Xi, lw, hp, hc] <;> with_reducible rfl)))
    have him : i * 65546 ≤ 4096 * 65546 := Nat.mul_le_mul_right _ (by omega)
    refine Tl.bind (f43c (k := k) (s := x) (by omega) (by omega) S) ?_
    rintro ⟨v', h'⟩ S'
    simp only at S'
    have ht := textP_len x (by omega)
    repeat (first | (with_reducible apply Tl.val; focus (simp (disch := omega) only [coreA, Int.reduceBEq, base_Xi] <;> with_reducible rfl)) | (with_reducible first | refine Tl.brT ?_ | refine Tl.brF ?_ | refine Tl.gd_on ?_ | refine Tl.gd3_on ?_) | ((with_reducible first | apply Tl.brC | apply Tl.gdC | apply Tl.gd3C); focus (simp (disch := omega) only [coreA, Int.reduceBEq, base_Xi] <;> with_reducible rfl)))
    rw [e]
    rw [hd, List.flatMap_cons, ← List.append_assoc] at hk
    exact ih (out := out ++ textP x) (by omega) (by omega) (by rw [List.length_append, Nat.succ_mul]; omega) S' hk
theorem posS_first {w : List ByteArray} {x : ByteArray} {m : Nat} (h : m < posS w x) : w[m]? ≠ some x := fun q => by
  obtain ⟨hlt, e⟩ := List.getElem?_eq_some_iff.1 q
  have := List.not_of_lt_findIdx (p := fun y => decide (y = x)) (xs := w) (i := m) h
  simp [e] at this
theorem f21_find {inv : Inv} {k : Nat} {v wv x6 x8 : Value} {l w : List ByteArray} {i : Nat} {x : ByteArray} (A : Strs h v l) (W : Strs h wv w) (ex : l[i]? = some x) (hx : x ∈ w) (hw : w.length ≤ 4096) {ke4 : Value → Value → Value → Value → Value → Value → Value → AH → Option β} (n : Nat) :
    ∀ {m j : Nat}, m + n = posS w x → n < j → (∀ y1, Tl (ke4 v wv x6 x8 (.int .i64 i) (.int .i64 (posS w x)) y1 h) Q) → Tl (F21_llrllrllrlrrrrrrrr inv k j v wv x6 x8 (.int .i64 i) (.int .i64 m) h ke4) Q := by
  have hp := posS_at hx
  have hlt := posS_lt hx
  obtain ⟨b2, o2, hp2, hc2⟩ := A.at_ (k := .i64) ex
  have hc2 := hc2 h (Grow.refl _)
  induction n with
  | zero =>
    intro m j hm hj hk
    obtain ⟨j, rfl⟩ : ∃ q, j = q + 1 := ⟨j - 1, by omega⟩
    rw [Nat.add_zero] at hm
    subst hm
    obtain ⟨b1, o1, hp1, hc1⟩ := W.at_ (k := .i64) hp
    have hc1 := hc1 h (Grow.refl _)
    have hq : ∀ ox oy, pBin Try.prog .neq 9 ox oy (.string x) (.string x) = some (.bool false) := fun ox oy => by rw [ne_s]; simp
    simp only [F21_llrllrllrlrrrrrrrr]
    repeat (first | (with_reducible apply Tl.val; focus (simp (disch := omega) only [coreA, Int.reduceBEq, base_Xi, hp1, hc1, hp2, hc2, hq] <;> with_reducible rfl)) | (with_reducible first | refine Tl.brT ?_ | refine Tl.brF ?_ | refine Tl.gd_on ?_ | refine Tl.gd3_on ?_) | ((with_reducible first | apply Tl.brC | apply Tl.gdC | apply Tl.gd3C); focus (simp (disch := omega) only [coreA, Int.reduceBEq, base_Xi, hp1, hc1, hp2, hc2, hq] <;> with_reducible rfl)))
    exact hk _
  | succ n ih =>
    intro m j hm hj hk
    obtain ⟨j, rfl⟩ : ∃ q, j = q + 1 := ⟨j - 1, by omega⟩
    obtain ⟨y, ey⟩ : ∃ y, w[m]? = some y := ⟨_, List.getElem?_eq_getElem (by omega)⟩
    have hne : ¬ y = x := fun q => posS_first (show m < posS w x by omega) (by rw [ey, q])
    obtain ⟨b1, o1, hp1, hc1⟩ := W.at_ (k := .i64) ey
    have hc1 := hc1 h (Grow.refl _)
    have hq : ∀ ox oy, pBin Try.prog .neq 9 ox oy (.string y) (.string x) = some (.bool true) := fun ox oy => by rw [ne_s]; simp [hne]
    have e : (m : Int) + 1 = ((m + 1 : Nat) : Int) := by omega
    simp only [F21_llrllrllrlrrrrrrrr]
    repeat (first | (with_reducible apply Tl.val; focus (simp (disch := omega) only [coreA, Int.reduceBEq, base_Xi, hp1, hc1, hp2, hc2, hq] <;> with_reducible rfl)) | (with_reducible first | refine Tl.brT ?_ | refine Tl.brF ?_ | refine Tl.gd_on ?_ | refine Tl.gd3_on ?_) | ((with_reducible first | apply Tl.brC | apply Tl.gdC | apply Tl.gd3C); focus (simp (disch := omega) only [coreA, Int.reduceBEq, base_Xi, hp1, hc1, hp2, hc2, hq] <;> with_reducible rfl)))
    rw [e]
    exact ih (by omega) (by omega) hk
theorem f21_l2 {inv : Inv} {k : Nat} {v wv x6 : Value} {l w : List ByteArray} {O : List OS} {out : List (List Value)} (A : Strs h0 v l) (hl : l.length ≤ 4096) (hw : w.length ≤ 4096) (hm : ∀ x ∈ l, x ∈ w) (hk' : w.length < k) {ke0 : Value → Value → Value → Value → Value → Value → AH → Option β} (n : Nat) :
    ∀ {i j : Nat} {h : AH} {ov : Value} {done : List Nat}, i + n = l.length → n < j → done.length = i → Stt Try.prog h0.n h0 h L ((ov, 1, u64rows done) :: (x6, 1, out) :: (wv, 1, srows w) :: O) →
      (∀ h' y y1 y2, Stt Try.prog h0.n h0 h' L ((y, 1, u64rows (done ++ (l.drop i).map (posS w))) :: (x6, 1, out) :: (wv, 1, srows w) :: O) → Tl (ke0 v wv x6 y y1 y2 h') Q) →
      Tl (F21_lrlrrrrrrrr inv k j v wv x6 ov (.int .i64 i) h ke0) Q := by
  have ll : ∀ h', pLen Try.prog #[22] v h' = some (.int .i64 l.length) := fun h' => A.len
  induction n with
  | zero =>
    intro i j h ov done hi hj hd S hk
    obtain ⟨j, rfl⟩ : ∃ q, j = q + 1 := ⟨j - 1, by omega⟩
    simp only [F21_lrlrrrrrrrr]
    repeat (first | (with_reducible apply Tl.val; focus (simp (disch := omega) only [coreA, Int.reduceBEq, base_Xi, ll] <;> with_reducible rfl)) | (with_reducible first | refine Tl.brT ?_ | refine Tl.brF ?_ | refine Tl.gd_on ?_ | refine Tl.gd3_on ?_) | ((with_reducible first | apply Tl.brC | apply Tl.gdC | apply Tl.gd3C); focus (simp (disch := omega) only [coreA, Int.reduceBEq, base_Xi, ll] <;> with_reducible rfl)))
    rw [List.drop_eq_nil_of_le (by omega)] at hk
    exact hk _ _ _ _ (by simpa using S)
  | succ n ih =>
    intro i j h ov done hi hj hd S hk
    obtain ⟨j, rfl⟩ : ∃ q, j = q + 1 := ⟨j - 1, by omega⟩
    obtain ⟨x, ex⟩ : ∃ x, l[i]? = some x := ⟨_, List.getElem?_eq_getElem (by omega)⟩
    obtain ⟨b, o, hp, hc⟩ := A.at_ (k := .i64) ex
    have hc := hc h S.grow
    have hx := hm x (List.mem_of_getElem? ex)
    have hlt := posS_lt hx
    have hdr : l.drop i = x :: l.drop (i + 1) := by rw [List.drop_eq_getElem?_toList_append, ex]; rfl
    have e : (i : Int) + 1 = ((i + 1 : Nat) : Int) := by omega
    simp only [F21_lrlrrrrrrrr]
    repeat (first | (with_reducible apply Tl.val; focus (simp (disch := omega) only [coreA, Int.reduceBEq, base_Xi, ll] <;> with_reducible rfl)) | (with_reducible first | refine Tl.brT ?_ | refine Tl.brF ?_ | refine Tl.gd_on ?_ | refine Tl.gd3_on ?_) | ((with_reducible first | apply Tl.brC | apply Tl.gdC | apply Tl.gd3C); focus (simp (disch := omega) only [coreA, Int.reduceBEq, base_Xi, ll] <;> with_reducible rfl)))
    refine f21_find (A.grow S.grow) (Stt.strs S 2 rfl) ex hx (by omega) (posS w x) (m := 0) (by omega) (by omega) fun y1 => ?_
    repeat (first | (with_reducible apply Tl.val; focus (simp (disch := omega) only [coreA, Int.reduceBEq, base_Xi] <;> with_reducible rfl)) | (with_reducible first | refine Tl.brT ?_ | refine Tl.brF ?_ | refine Tl.gd_on ?_ | refine Tl.gd3_on ?_) | ((with_reducible first | apply Tl.brC | apply Tl.gdC | apply Tl.gd3C); focus (simp (disch := omega) only [coreA, Int.reduceBEq, base_Xi] <;> with_reducible rfl)))
    refine Tl.push S 0 rfl app50 (bs50 _ _) rfl rfl (by rw [u64rows_len]; omega) fun v' h' S' => ?_
    repeat (first | (with_reducible apply Tl.val; focus (simp (disch := omega) only [coreA, Int.reduceBEq, base_Xi] <;> with_reducible rfl)) | (with_reducible first | refine Tl.brT ?_ | refine Tl.brF ?_ | refine Tl.gd_on ?_ | refine Tl.gd3_on ?_) | ((with_reducible first | apply Tl.brC | apply Tl.gdC | apply Tl.gd3C); focus (simp (disch := omega) only [coreA, Int.reduceBEq, base_Xi] <;> with_reducible rfl)))
    rw [e]
    rw [hdr, List.map_cons] at hk
    refine ih (done := done ++ [posS w x]) (by omega) (by omega) (by simp [hd]) (by simpa [u64rows, u64v] using S') fun h' y y1 y2 S'' => hk h' y y1 y2 ?_
    simpa using S''
theorem f21c {k : Nat} {h : AH} {v : Value} {l : List ByteArray} (A : Strs h v l) (hl : l.length ≤ 9223372036854775807) (hk : 4096 < k) :
    Tl (eInv env (k + 400) (.func 21) #[] #[v] h) fun r => ∃ v', r.1 = .tuple #[v', .int .i64 (checkT l)] ∧ Stt Try.prog h.n h r.2 [] [(v', 1, u8rows (dictG l))] := by
  rw [F21_call]
  unfold F21
  have hc := f41c (k := k + 398) A hl (by omega)
  have ll : ∀ h', pLen Try.prog #[22] v h' = some (.int .i64 l.length) := fun h' => A.len
  unfold checkT dictG at *
  cases q : mayT l
  · rw [q] at hc
    simp only [Bool.false_eq_true, if_false] at hc ⊢
    repeat (first | (with_reducible apply Tl.val; focus (simp (disch := omega) only [coreA, Int.reduceBEq, base_Xi, hc] <;> with_reducible rfl)) | (with_reducible first | refine Tl.brT ?_ | refine Tl.brF ?_ | refine Tl.gd_on ?_ | refine Tl.gd3_on ?_) | ((with_reducible first | apply Tl.brC | apply Tl.gdC | apply Tl.gd3C); focus (simp (disch := omega) only [coreA, Int.reduceBEq, base_Xi, hc] <;> with_reducible rfl)))
    exact ⟨_, rfl, _, rfl, (Stt.init h).nil 1⟩
  rw [q] at hc
  simp only [if_true] at hc ⊢
  obtain ⟨q1, q2⟩ := mayT_spec.1 q
  have hwl := wordsB_len l
  have hsm : ∀ x ∈ l, x.size ≤ maxLen := fun x hx => by have := q2 x hx; unfold maxLen; omega
  have ha := atW_lt (l := l)
  have hal : (atW l).length = l.length := List.length_map ..
  have ha64 : ∀ x ∈ atW l, x < 18446744073709551616 := fun x hx => by have := ha x hx; omega
  have hW := Pk.width64 ha64
  have hE := Pk.putE_of (l := atW l) (W := widW l) (by omega) (by unfold widW; exact hW) (Nat.le_refl _)
  repeat (first | (with_reducible apply Tl.val; focus (simp (disch := omega) only [coreA, Int.reduceBEq, base_Xi, hc] <;> with_reducible rfl)) | (with_reducible first | refine Tl.brT ?_ | refine Tl.brF ?_ | refine Tl.gd_on ?_ | refine Tl.gd3_on ?_) | ((with_reducible first | apply Tl.brC | apply Tl.gdC | apply Tl.gd3C); focus (simp (disch := omega) only [coreA, Int.reduceBEq, base_Xi, hc] <;> with_reducible rfl)))
  refine Tl.bind (f25c (k := k + 398) A (by omega) (by omega)) ?_
  rintro ⟨wv, h1⟩ S1
  simp only at S1
  repeat (first | (with_reducible apply Tl.val; focus (simp (disch := omega) only [coreA, Int.reduceBEq, base_Xi, bs30, ll] <;> with_reducible rfl)) | (with_reducible first | refine Tl.brT ?_ | refine Tl.brF ?_ | refine Tl.gd_on ?_ | refine Tl.gd3_on ?_) | ((with_reducible first | apply Tl.brC | apply Tl.gdC | apply Tl.gd3C); focus (simp (disch := omega) only [coreA, Int.reduceBEq, base_Xi, bs30, ll] <;> with_reducible rfl)))
  have S1a := (show Stt Try.prog h.n h (h1.alloc (.cells (u8rows [2]).flatten 5 true)) [(h1.n, .cells (u8rows [2]).flatten 5 true)] [(wv, 1, srows (wordsB l))] from S1.alloc _).absorb (n := 1) (u8v_wide [2]) sz5
  refine Tl.bind (f42c (k := k + 379) l.length (by omega) (by simp) S1a) ?_
  rintro ⟨o1, h2⟩ S2
  simp only at S2
  have lw : ∀ h', pLen Try.prog #[22] wv h' = some (.int .i64 (wordsB l).length) := fun h' => (Stt.strs S2 1 rfl).len
  have p1 := pvarN_le10 (n := l.length) (by omega)
  have p2 := pvarN_le10 (n := (wordsB l).length) (by omega)
  repeat (first | (with_reducible apply Tl.val; focus (simp (disch := omega) only [coreA, Int.reduceBEq, base_Xi, lw] <;> with_reducible rfl)) | (with_reducible first | refine Tl.brT ?_ | refine Tl.brF ?_ | refine Tl.gd_on ?_ | refine Tl.gd3_on ?_) | ((with_reducible first | apply Tl.brC | apply Tl.gdC | apply Tl.gd3C); focus (simp (disch := omega) only [coreA, Int.reduceBEq, base_Xi, lw] <;> with_reducible rfl)))
  refine Tl.bind (f42c (k := k + 379) (wordsB l).length (by omega) (by simp; omega) S2) ?_
  rintro ⟨o2, h3⟩ S3
  simp only at S3
  refine f21_l1 (k := k + 378) (by omega) (fun x hx => q2 x (wordsB_mem.1 hx)) (wordsB l).length (i := 0) (by omega) (by omega) (by simp; omega) S3 fun h4 o3 y1 y2 S4 hlen => ?_
  rw [List.drop_zero] at S4 hlen
  refine f21_l2 (k := k + 399) (O := []) (A.grow (Grow.refl _)) q1 (by omega) (fun x hx => wordsB_mem.2 hx) (by omega) l.length (i := 0) (done := []) (by omega) (by omega) rfl (S4.nil 1) fun h5 av y3 y4 S5 => ?_
  rw [List.drop_zero, List.nil_append] at S5
  have Aw : Words h5 av (atW l) := S5.sl1 (f := u64v) 0 rfl
  have wid : eInv env (k + 399) (.func 44) #[] #[av] h5 = some (.int .i64 (widW l), h5) := Pk.f20c (k := k + 318) Aw.pk (by omega) ha64 (by omega)
  repeat (first | (with_reducible apply Tl.val; focus (simp (disch := omega) only [coreA, Int.reduceBEq, base_Xi, wid] <;> with_reducible rfl)) | (with_reducible first | refine Tl.brT ?_ | refine Tl.brF ?_ | refine Tl.gd_on ?_ | refine Tl.gd3_on ?_) | ((with_reducible first | apply Tl.brC | apply Tl.gdC | apply Tl.gd3C); focus (simp (disch := omega) only [coreA, Int.reduceBEq, base_Xi, wid] <;> with_reducible rfl)))
  refine Tl.bind (Pk.f17c (k := k + 298) Aw.pk (by omega) (by omega) ha64 (widW l)) ?_
  rintro ⟨r, h6⟩ ⟨pv, er, g6, X6⟩
  rw [pk_brow] at X6
  simp only at er g6 X6
  subst er
  rw [hE]
  have eL : Pk.putL (atW l) (widW l) = putN (widW l) (atW l) := by
    unfold Pk.putL
    rw [if_pos hE]
    rfl
  rw [eL] at X6
  have S6 := S5.gain g6 X6
  have hW2 : widW l ≤ 64 := hW
  have hpn : (putN (widW l) (atW l)).length ≤ 100000 := by
    have := (putN_spec (widW l) (atW l)).2.1
    rw [this, hal]
    have : l.length * widW l ≤ 4096 * 64 := Nat.mul_le_mul q1 hW2
    omega
  have hwm : (wordsB l).length * 65546 ≤ 4096 * 65546 := Nat.mul_le_mul_right _ (by omega)
  repeat (first | (with_reducible apply Tl.val; focus (simp (disch := omega) only [coreA, Int.reduceBEq, base_Xi] <;> with_reducible rfl)) | (with_reducible first | refine Tl.brT ?_ | refine Tl.brF ?_ | refine Tl.gd_on ?_ | refine Tl.gd3_on ?_) | ((with_reducible first | apply Tl.brC | apply Tl.gdC | apply Tl.gd3C); focus (simp (disch := omega) only [coreA, Int.reduceBEq, base_Xi] <;> with_reducible rfl)))
  have S6 := S6.keepO (O' := [(pv, 1, u8rows (putN (widW l) (atW l))), (o3, 1, u8rows ([2] ++ pvarN l.length ++ pvarN (wordsB l).length ++ (wordsB l).flatMap textP))]) (by
    refine .cons_cons _ (.cons _ (.cons_cons _ (.cons _ .slnil)))) 
  refine Tl.push S6 1 rfl app30 (bs30 _ _) rfl rfl (by rw [u8rows_len]; omega) fun o4 h7 S7 => ?_
  repeat (first | (with_reducible apply Tl.val; focus (simp (disch := omega) only [coreA, Int.reduceBEq, base_Xi] <;> with_reducible rfl)) | (with_reducible first | refine Tl.brT ?_ | refine Tl.brF ?_ | refine Tl.gd_on ?_ | refine Tl.gd3_on ?_) | ((with_reducible first | apply Tl.brC | apply Tl.gdC | apply Tl.gd3C); focus (simp (disch := omega) only [coreA, Int.reduceBEq, base_Xi] <;> with_reducible rfl)))
  have S7 : Stt Try.prog h.n h h7 [] [(pv, 1, u8rows (putN (widW l) (atW l))), (o4, 1, u8rows ([2] ++ pvarN l.length ++ pvarN (wordsB l).length ++ (wordsB l).flatMap textP ++ [widW l]))] := by
    have e : u8rows ([2] ++ pvarN l.length ++ pvarN (wordsB l).length ++ (wordsB l).flatMap textP ++ [widW l]) = u8rows ([2] ++ pvarN l.length ++ pvarN (wordsB l).length ++ (wordsB l).flatMap textP) ++ [[.int .u8 (widW l : Int)]] := by
      unfold u8rows
      rw [List.map_append]
      rfl
    rw [e]; exact S7
  refine Tl.append' S7 1 rfl app30 (S7.slV 0 rfl) (one_u8rows _) (by rw [u8rows_len, u8rows_len]; simp at hlen ⊢; omega) fun o5 h8 S8 => ?_
  repeat (first | (with_reducible apply Tl.val; focus (simp (disch := omega) only [coreA, Int.reduceBEq, base_Xi] <;> with_reducible rfl)) | (with_reducible first | refine Tl.brT ?_ | refine Tl.brF ?_ | refine Tl.gd_on ?_ | refine Tl.gd3_on ?_) | ((with_reducible first | apply Tl.brC | apply Tl.gdC | apply Tl.gd3C); focus (simp (disch := omega) only [coreA, Int.reduceBEq, base_Xi] <;> with_reducible rfl)))
  refine ⟨_, rfl, _, rfl, ?_⟩
  have e : u8rows (dictT l) = u8rows ([2] ++ pvarN l.length ++ pvarN (wordsB l).length ++ (wordsB l).flatMap textP ++ [widW l]) ++ u8rows (putN (widW l) (atW l)) := by
    unfold dictT u8rows
    rw [List.map_append]
  rw [e]
  exact S8.keepO (.cons _ (.cons_cons _ .slnil))
theorem f22c {k : Nat} {h : AH} {v : Value} {l : List ByteArray} (A : Strs h v l) (hl : l.length ≤ 9223372036854775807) (hk : 4096 < k) :
    Tl (eInv env (k + 401) (.func 22) #[] #[v] h) fun r => ∃ v', r.1 = .tuple #[v', .int .i64 (checkT l)] ∧ Stt Try.prog h.n h r.2 [] [(v', 1, u8rows (putT l))] := by
  rw [F22_call]
  unfold F22
  refine Tl.bind (f20c (k := k + 378) A hl (by omega)) ?_
  rintro ⟨rr, h1⟩ ⟨pv, er, S1⟩
  simp only at er S1
  subst er
  unfold checkT plainG putT at *
  cases q : mayT l
  · rw [q] at S1
    simp only [Bool.false_eq_true, if_false] at S1 ⊢
    repeat (first | (with_reducible apply Tl.val; focus (simp (disch := omega) only [coreA, Int.reduceBEq, base_Xi] <;> with_reducible rfl)) | (with_reducible first | refine Tl.brT ?_ | refine Tl.brF ?_ | refine Tl.gd_on ?_ | refine Tl.gd3_on ?_) | ((with_reducible first | apply Tl.brC | apply Tl.gdC | apply Tl.gd3C); focus (simp (disch := omega) only [coreA, Int.reduceBEq, base_Xi] <;> with_reducible rfl)))
    exact ⟨_, rfl, _, rfl, S1.dropO.nil 1⟩
  rw [q] at S1
  simp only [if_true] at S1 ⊢
  repeat (first | (with_reducible apply Tl.val; focus (simp (disch := omega) only [coreA, Int.reduceBEq, base_Xi] <;> with_reducible rfl)) | (with_reducible first | refine Tl.brT ?_ | refine Tl.brF ?_ | refine Tl.gd_on ?_ | refine Tl.gd3_on ?_) | ((with_reducible first | apply Tl.brC | apply Tl.gdC | apply Tl.gd3C); focus (simp (disch := omega) only [coreA, Int.reduceBEq, base_Xi] <;> with_reducible rfl)))
  refine Tl.bind (f21c (k := k) (A.grow S1.grow) hl hk) ?_
  rintro ⟨rr, h2⟩ ⟨dv, er, S2⟩
  simp only at er S2
  subst er
  have S2 := S1.join S2
  unfold checkT dictG at *
  rw [q] at S2 ⊢
  simp only [if_true] at S2 ⊢
  have lp : ∀ h', pLen Try.prog #[30] pv h' = some (.int .i64 (plainT l).length) := fun h' => Bytes.len (S2.sl1 (f := u8v) 1 rfl)
  have ld : ∀ h', pLen Try.prog #[30] dv h' = some (.int .i64 (dictT l).length) := fun h' => Bytes.len (S2.sl1 (f := u8v) 0 rfl)
  by_cases q2 : (dictT l).length < (plainT l).length
  · rw [if_pos q2]
    repeat (first | (with_reducible apply Tl.val; focus (simp (disch := omega) only [coreA, Int.reduceBEq, base_Xi, lp, ld] <;> with_reducible rfl)) | (with_reducible first | refine Tl.brT ?_ | refine Tl.brF ?_ | refine Tl.gd_on ?_ | refine Tl.gd3_on ?_) | ((with_reducible first | apply Tl.brC | apply Tl.gdC | apply Tl.gd3C); focus (simp (disch := omega) only [coreA, Int.reduceBEq, base_Xi, lp, ld] <;> with_reducible rfl)))
    exact ⟨_, rfl, _, rfl, S2.keepO (.cons_cons _ (.cons _ .slnil))⟩
  · rw [if_neg q2]
    repeat (first | (with_reducible apply Tl.val; focus (simp (disch := omega) only [coreA, Int.reduceBEq, base_Xi, lp, ld] <;> with_reducible rfl)) | (with_reducible first | refine Tl.brT ?_ | refine Tl.brF ?_ | refine Tl.gd_on ?_ | refine Tl.gd3_on ?_) | ((with_reducible first | apply Tl.brC | apply Tl.gdC | apply Tl.gd3C); focus (simp (disch := omega) only [coreA, Int.reduceBEq, base_Xi, lp, ld] <;> with_reducible rfl)))
    exact ⟨_, rfl, _, rfl, S2.keepO (.cons _ (.cons_cons _ .slnil))⟩
end
end Go.Proofs.Ytagcejlclcldcaa.Sh
