/- The document's answer for flags. -/
import Derived.Test.YtoleebigheobcaaSzN9
import Derived.Test.YtoleebigheobcaaSzN2
import Derived.Test.YtoleebigheobcaaSzRc
import Derived.Test.YtoleebigheobcaaSzRp
set_option linter.unusedVariables false
set_option linter.unusedSimpArgs false
set_option maxRecDepth 100000
namespace Go.Proofs.Ytoleebigheobcaa.Sh
open Go Go.RowKit Go.Proofs.Ev
theorem base_N10 : type_of% (And.intro @ld3 (And.intro @ld4 (And.intro @ld5 (And.intro @ld22 (And.intro @ld25 (And.intro @ld32 (And.intro @ld49 (And.intro @ld52 (And.intro (fun a h => conv_int (a := a) (h := h) u3 u49) (And.intro (fun a h => conv_int (a := a) (h := h) u49 u3) (And.intro (fun a h => conv_int (a := a) (h := h) u3 u68) (And.intro (fun a h => conv_int (a := a) (h := h) u68 u3) (And.intro (fun ox oy a b => bin_eql_bool (ox := ox) (oy := oy) (a := a) (b := b) u4) (And.intro (fun ox oy a b => bin_neq_bool (ox := ox) (oy := oy) (a := a) (b := b) u4) (And.intro @ex2_0 (And.intro @ex2_1 (And.intro @ex3_0 (And.intro @ex3_1 (@ex3_2))))))))))))))))))) := And.intro @ld3 (And.intro @ld4 (And.intro @ld5 (And.intro @ld22 (And.intro @ld25 (And.intro @ld32 (And.intro @ld49 (And.intro @ld52 (And.intro (fun a h => conv_int (a := a) (h := h) u3 u49) (And.intro (fun a h => conv_int (a := a) (h := h) u49 u3) (And.intro (fun a h => conv_int (a := a) (h := h) u3 u68) (And.intro (fun a h => conv_int (a := a) (h := h) u68 u3) (And.intro (fun ox oy a b => bin_eql_bool (ox := ox) (oy := oy) (a := a) (b := b) u4) (And.intro (fun ox oy a b => bin_neq_bool (ox := ox) (oy := oy) (a := a) (b := b) u4) (And.intro @ex2_0 (And.intro @ex2_1 (And.intro @ex3_0 (And.intro @ex3_1 (@ex3_2))))))))))))))))))
theorem take_snoc {α : Type} {l : List α} {i : Nat} {x : α} (hx : l[i]? = some x) : l.take (i + 1) = l.take i ++ [x] := by rw [List.take_add_one, hx]; rfl
theorem f20_loop {β : Type} {k : Nat} {Q : β → Prop} {h : AH} {v : Value} {l : List Bool} (S : Bools h v l) (hl : l.length ≤ 2 ^ 30) {ke0 : Value → Value → Value → Value → AH → Option β} (n : Nat) :
    ∀ {i j : Nat}, i + n = l.length → n < j → (∀ y y', Tl (ke0 v (.int .i64 (cnt l)) y y' h) Q) → Tl (F20_lrlrr (eInv env k) k j v (.int .i64 (cnt (l.take i))) (.int .i64 i) h ke0) Q := by
  have hlen : ∀ h', pLen Try.prog #[22] v h' = some (.int .i64 l.length) := fun h' => Sl1.len S u22
  induction n with
  | zero =>
    intro i j hi hj hk
    obtain ⟨j, rfl⟩ : ∃ q, j = q + 1 := ⟨j - 1, by omega⟩
    simp only [F20_lrlrr]
    repeat (first | (with_reducible apply Tl.val; focus (simp (disch := omega) only [coreA, Int.reduceBEq, base_N10, hlen] <;> with_reducible rfl)) | (with_reducible first | refine Tl.brT ?_ | refine Tl.brF ?_ | refine Tl.gd_on ?_ | refine Tl.gd3_on ?_) | ((with_reducible first | apply Tl.brC | apply Tl.gdC | apply Tl.gd3C); focus (simp (disch := omega) only [coreA, Int.reduceBEq, base_N10, hlen] <;> with_reducible rfl)))
    rw [List.take_of_length_le (by omega)]
    exact hk _ _
  | succ n ih =>
    intro i j hi hj hk
    obtain ⟨j, rfl⟩ : ∃ q, j = q + 1 := ⟨j - 1, by omega⟩
    obtain ⟨x, hx⟩ : ∃ x, l[i]? = some x := ⟨_, List.getElem?_eq_getElem (by omega)⟩
    obtain ⟨b, o, hp, hc1⟩ := Sl1.at_ S (t := 22) (k := .i64) hx u22 sz4
    have hc1 := hc1 h (Grow.refl _)
    have e : (i : Int) + 1 = ((i + 1 : Nat) : Int) := by omega
    have hti := take_snoc hx
    have hcl := cnt_le (l.take i)
    rw [List.length_take] at hcl
    have go := ih (i := i + 1) (j := j) (by omega) (by omega) hk
    rw [hti] at go
    simp only [F20_lrlrr]
    unfold F20_lrllrlrr
    repeat (first | (with_reducible apply Tl.val; focus (simp (disch := omega) only [coreA, Int.reduceBEq, base_N10, hlen, hp, hc1, bv] <;> with_reducible rfl)) | (with_reducible first | refine Tl.brT ?_ | refine Tl.brF ?_ | refine Tl.gd_on ?_ | refine Tl.gd3_on ?_) | ((with_reducible first | apply Tl.brC | apply Tl.gdC | apply Tl.gd3C); focus (simp (disch := omega) only [coreA, Int.reduceBEq, base_N10, hlen, hp, hc1, bv] <;> with_reducible rfl)))
    cases x
    · have ec : cnt (l.take i ++ [false]) = cnt (l.take i) := by unfold cnt; simp
      rw [ec] at go
      repeat (first | (with_reducible apply Tl.val; focus (simp (disch := omega) only [coreA, Int.reduceBEq, base_N10] <;> with_reducible rfl)) | (with_reducible first | refine Tl.brT ?_ | refine Tl.brF ?_ | refine Tl.gd_on ?_ | refine Tl.gd3_on ?_) | ((with_reducible first | apply Tl.brC | apply Tl.gdC | apply Tl.gd3C); focus (simp (disch := omega) only [coreA, Int.reduceBEq, base_N10] <;> with_reducible rfl)))
      rw [e]
      exact go
    · have ec : ((cnt (l.take i ++ [true]) : Nat) : Int) = (cnt (l.take i) : Int) + 1 := by unfold cnt; simp
      rw [ec] at go
      repeat (first | (with_reducible apply Tl.val; focus (simp (disch := omega) only [coreA, Int.reduceBEq, base_N10] <;> with_reducible rfl)) | (with_reducible first | refine Tl.brT ?_ | refine Tl.brF ?_ | refine Tl.gd_on ?_ | refine Tl.gd3_on ?_) | ((with_reducible first | apply Tl.brC | apply Tl.gdC | apply Tl.gd3C); focus (simp (disch := omega) only [coreA, Int.reduceBEq, base_N10] <;> with_reducible rfl)))
      rw [e]
      exact go
theorem f20c {k : Nat} {h : AH} {v : Value} {l : List Bool} (S : Bools h v l) (hl : l.length ≤ 2 ^ 30) (hk : l.length < k) : eInv env (k + 1) (.func 20) #[] #[v] h = some (.int .i64 (cnt l), h) := by
  have T : Tl (F20 (eInv env k) k v h) fun r => r = (.int .i64 (cnt l), h) := by
    unfold F20
    exact f20_loop S hl l.length (i := 0) (by omega) (by omega) fun y y' => ⟨_, rfl, rfl⟩
  obtain ⟨r, h1, h2⟩ := T
  rw [F20_call, h1, h2]
theorem f21_loop {β : Type} {k : Nat} {Q : β → Prop} {h0 : AH} {v : Value} {l : List Bool} (S : Bools h0 v l) (hl : l.length ≤ 2 ^ 30) {ke0 : Value → Value → Value → Value → Value → AH → Option β} (n : Nat) :
    ∀ {i j c : Nat} {h : AH} {ov : Value} {done : List Int}, i + n = l.length → n < j → c ≤ i → done.length = i → Stt Try.prog h0.n h0 h [] [(ov, 1, irows done)] →
      (∀ h' ov' y y' y'', Stt Try.prog h0.n h0 h' [] [(ov', 1, irows (done ++ spreadL c (l.drop i)))] → Tl (ke0 v ov' y y' y'' h') Q) →
      Tl (F21_lrlrrrr (eInv env k) k j v ov (.int .i64 c) (.int .i64 i) h ke0) Q := by
  have hlen : ∀ h', pLen Try.prog #[22] v h' = some (.int .i64 l.length) := fun h' => Sl1.len S u22
  induction n with
  | zero =>
    intro i j c h ov done hi hj hc hd T hk
    obtain ⟨j, rfl⟩ : ∃ q, j = q + 1 := ⟨j - 1, by omega⟩
    simp only [F21_lrlrrrr]
    repeat (first | (with_reducible apply Tl.val; focus (simp (disch := omega) only [coreA, Int.reduceBEq, base_N10, hlen] <;> with_reducible rfl)) | (with_reducible first | refine Tl.brT ?_ | refine Tl.brF ?_ | refine Tl.gd_on ?_ | refine Tl.gd3_on ?_) | ((with_reducible first | apply Tl.brC | apply Tl.gdC | apply Tl.gd3C); focus (simp (disch := omega) only [coreA, Int.reduceBEq, base_N10, hlen] <;> with_reducible rfl)))
    refine hk _ _ _ _ _ ?_
    rw [List.drop_eq_nil_of_le (by omega)]
    simpa [spreadL] using T
  | succ n ih =>
    intro i j c h ov done hi hj hc hd T hk
    obtain ⟨j, rfl⟩ : ∃ q, j = q + 1 := ⟨j - 1, by omega⟩
    have hlt : i < l.length := by omega
    obtain ⟨x, hx⟩ : ∃ x, l[i]? = some x := ⟨_, List.getElem?_eq_getElem hlt⟩
    obtain ⟨b, o, hp, hc1⟩ := Sl1.at_ S (t := 22) (k := .i64) hx u22 sz4
    have hc1 := hc1 h T.grow
    simp only [F21_lrlrrrr]
    unfold F21_lrllrlrrrr
    repeat (first | (with_reducible apply Tl.val; focus (simp (disch := omega) only [coreA, Int.reduceBEq, base_N10, hlen, hp, hc1, bv] <;> with_reducible rfl)) | (with_reducible first | refine Tl.brT ?_ | refine Tl.brF ?_ | refine Tl.gd_on ?_ | refine Tl.gd3_on ?_) | ((with_reducible first | apply Tl.brC | apply Tl.gdC | apply Tl.gd3C); focus (simp (disch := omega) only [coreA, Int.reduceBEq, base_N10, hlen, hp, hc1, bv] <;> with_reducible rfl)))
    have e : (i : Int) + 1 = ((i + 1 : Nat) : Int) := by omega
    cases x
    · repeat (first | (with_reducible apply Tl.val; focus (simp (disch := omega) only [coreA, Int.reduceBEq, base_N10] <;> with_reducible rfl)) | (with_reducible first | refine Tl.brT ?_ | refine Tl.brF ?_ | refine Tl.gd_on ?_ | refine Tl.gd3_on ?_) | ((with_reducible first | apply Tl.brC | apply Tl.gdC | apply Tl.gd3C); focus (simp (disch := omega) only [coreA, Int.reduceBEq, base_N10] <;> with_reducible rfl)))
      refine Tl.push T 0 rfl app25 (bs25 _ _) rfl rfl (by rw [irows_len]; omega) fun ov' h' T' => ?_
      have e2 : (c : Int) + 1 = ((c + 1 : Nat) : Int) := by omega
      repeat (first | (with_reducible apply Tl.val; focus (simp (disch := omega) only [coreA, Int.reduceBEq, base_N10] <;> with_reducible rfl)) | (with_reducible first | refine Tl.brT ?_ | refine Tl.brF ?_ | refine Tl.gd_on ?_ | refine Tl.gd3_on ?_) | ((with_reducible first | apply Tl.brC | apply Tl.gdC | apply Tl.gd3C); focus (simp (disch := omega) only [coreA, Int.reduceBEq, base_N10] <;> with_reducible rfl)))
      rw [e, e2]
      refine ih (done := done ++ [(c : Int)]) (by omega) (by omega) (by omega) (by simp [hd]) (by simpa [irows, iv] using T') fun h'' ov'' y y' y'' T'' => ?_
      refine hk _ _ _ _ _ ?_
      rw [drop_cons hx]
      simpa [spreadL] using T''
    · repeat (first | (with_reducible apply Tl.val; focus (simp (disch := omega) only [coreA, Int.reduceBEq, base_N10] <;> with_reducible rfl)) | (with_reducible first | refine Tl.brT ?_ | refine Tl.brF ?_ | refine Tl.gd_on ?_ | refine Tl.gd3_on ?_) | ((with_reducible first | apply Tl.brC | apply Tl.gdC | apply Tl.gd3C); focus (simp (disch := omega) only [coreA, Int.reduceBEq, base_N10] <;> with_reducible rfl)))
      refine Tl.push T 0 rfl app25 (bs25 _ _) rfl rfl (by rw [irows_len]; omega) fun ov' h' T' => ?_
      repeat (first | (with_reducible apply Tl.val; focus (simp (disch := omega) only [coreA, Int.reduceBEq, base_N10] <;> with_reducible rfl)) | (with_reducible first | refine Tl.brT ?_ | refine Tl.brF ?_ | refine Tl.gd_on ?_ | refine Tl.gd3_on ?_) | ((with_reducible first | apply Tl.brC | apply Tl.gdC | apply Tl.gd3C); focus (simp (disch := omega) only [coreA, Int.reduceBEq, base_N10] <;> with_reducible rfl)))
      rw [e]
      refine ih (done := done ++ [-1]) (by omega) (by omega) (by omega) (by simp [hd]) (by simpa [irows, iv] using T') fun h'' ov'' y y' y'' T'' => ?_
      refine hk _ _ _ _ _ ?_
      rw [drop_cons hx]
      simpa [spreadL] using T''
theorem f21c {k : Nat} {h : AH} {v : Value} {l : List Bool} (S : Bools h v l) (hl : l.length ≤ 2 ^ 30) (hk : l.length < k) (values : Int) :
    Tl (eInv env (k + 3) (.func 21) #[] #[v, .int .i64 values] h) fun r => OwnB Try.prog h.n r.2 r.1 1 (irows (spreadV l values)) ∧ Grow h r.2 := by
  rw [F21_call]
  unfold F21
  have hlen : ∀ h', pLen Try.prog #[22] v h' = some (.int .i64 l.length) := fun h' => Sl1.len S u22
  have hc := f20c (k := k + 1) S hl (by omega)
  have := cnt_le l
  unfold spreadV
  by_cases e : (l.length : Int) - cnt l = values
  · rw [if_pos e]
    repeat (first | (with_reducible apply Tl.val; focus (simp (disch := omega) only [coreA, Int.reduceBEq, base_N10, hlen, hc] <;> with_reducible rfl)) | (with_reducible first | refine Tl.brT ?_ | refine Tl.brF ?_ | refine Tl.gd_on ?_ | refine Tl.gd3_on ?_) | ((with_reducible first | apply Tl.brC | apply Tl.gdC | apply Tl.gd3C); focus (simp (disch := omega) only [coreA, Int.reduceBEq, base_N10, hlen, hc] <;> with_reducible rfl)))
    refine f21_loop S hl l.length (i := 0) (c := 0) (done := []) (by omega) (by omega) (by omega) rfl ((Stt.init h).nil 1) fun h' ov' y y' y'' T => ?_
    exact ⟨_, rfl, by simpa using T.ret 0 rfl, T.grow⟩
  · rw [if_neg e]
    repeat (first | (with_reducible apply Tl.val; focus (simp (disch := omega) only [coreA, Int.reduceBEq, base_N10, hlen, hc] <;> with_reducible rfl)) | (with_reducible first | refine Tl.brT ?_ | refine Tl.brF ?_ | refine Tl.gd_on ?_ | refine Tl.gd3_on ?_) | ((with_reducible first | apply Tl.brC | apply Tl.gdC | apply Tl.gd3C); focus (simp (disch := omega) only [coreA, Int.reduceBEq, base_N10, hlen, hc] <;> with_reducible rfl)))
    exact ⟨_, rfl, .inl ⟨rfl, rfl⟩, Grow.refl _⟩
/-! ### Lengths -/
theorem rl_ne (l : List Bool) : ∀ (b : Bool) (n : Nat), rl b n l ≠ [] := by
  induction l with
  | nil => intro b n; simp [rl]
  | cons d l ih => intro b n; unfold rl; split; exact ih _ _; simp
theorem rl_snoc (l : List Bool) : ∀ (b c : Bool) (n : Nat), rl b n (l ++ [c]) = if (b :: l).getLast? = some c then (rl b n l).dropLast ++ [(((rl b n l).getLast?.getD (0, false)).1 + 1, ((rl b n l).getLast?.getD (0, false)).2)] else rl b n l ++ [(1, c)] := by
  induction l with
  | nil =>
    intro b c n
    simp only [List.nil_append, rl, List.getLast?_singleton]
    by_cases q : c = b
    · subst q; simp
    · have q2 : ¬ b = c := fun h => q h.symm
      simp [q, q2]
  | cons a l ih =>
    intro b c n
    simp only [List.cons_append, rl, List.getLast?_cons_cons]
    by_cases q : a = b
    · subst q
      simp only [if_true]
      exact ih a c (n + 1)
    · simp only [if_neg q]
      rw [ih a c 1]
      have hne := rl_ne l a 1
      by_cases q2 : (a :: l).getLast? = some c
      · rw [if_pos q2, if_pos q2, List.dropLast_cons_of_ne_nil hne, List.getLast?_cons, List.getLast?_eq_some_getLast hne]
        simp
      · rw [if_neg q2, if_neg q2]; rfl
theorem rl_sum (l : List Bool) : ∀ (b : Bool) (n : Nat), ∀ r ∈ rl b n l, r.1 ≤ n + l.length + 1 := by
  induction l with
  | nil => intro b n r hr; simp [rl] at hr; subst hr; simp
  | cons d l ih =>
    intro b n r hr
    unfold rl at hr
    split at hr
    · have := ih b (n + 1) r hr; simp; omega
    · rcases List.mem_cons.1 hr with rfl | hr
      · simp; omega
      · have := ih d 1 r hr; simp; omega
theorem lens_same {l : List Bool} {i : Nat} {x : Bool} (hi : 0 < i) (hx : l[i]? = some x) (hy : l[i - 1]? = some x) : lens (runsL (l.take (i + 1))) = (lens (runsL (l.take i))).dropLast ++ [(lens (runsL (l.take i))).getLast?.getD 0 + 1] := by
  rw [take_snoc hx]
  cases l with
  | nil => simp at hx
  | cons b l =>
    obtain ⟨i, rfl⟩ : ∃ q, i = q + 1 := ⟨i - 1, by omega⟩
    simp only [List.take_succ_cons, List.cons_append, runsL]
    have hlast : (b :: l.take i).getLast? = some x := by
      have hlt : i < (b :: l).length := (List.getElem?_eq_some_iff.1 hy).1
      have h2 : (b :: l.take i) = (b :: l).take (i + 1) := rfl
      have h3 : ((b :: l).take (i + 1)).getLast? = some x := by
        rw [List.getLast?_eq_getElem?, List.length_take, Nat.min_eq_left (by omega), List.getElem?_take, if_pos (by omega)]
        simpa using hy
      rw [← h2] at h3
      exact h3
    rw [rl_snoc, if_pos hlast]
    have hne := rl_ne (l.take i) b 1
    unfold lens
    rw [List.map_append, List.map_dropLast, List.getLast?_map, List.getLast?_eq_some_getLast hne]
    simp
theorem lens_new {l : List Bool} {i : Nat} {x : Bool} (hx : l[i]? = some x) (hy : i = 0 ∨ l[i - 1]? ≠ some x) : lens (runsL (l.take (i + 1))) = lens (runsL (l.take i)) ++ [1] := by
  rw [take_snoc hx]
  cases l with
  | nil => simp at hx
  | cons b l =>
    by_cases hi : i = 0
    · subst hi; simp [runsL, rl, lens]
    · obtain ⟨i, rfl⟩ : ∃ q, i = q + 1 := ⟨i - 1, by omega⟩
      simp only [List.take_succ_cons, List.cons_append, runsL]
      have hlast : ¬ (b :: l.take i).getLast? = some x := fun hq => by
        rcases hy with hy | hy
        · omega
        · apply hy
          have hlt : i + 1 < (b :: l).length := (List.getElem?_eq_some_iff.1 hx).1
          have h2 : (b :: l.take i) = (b :: l).take (i + 1) := rfl
          have h3 : ((b :: l).take (i + 1)).getLast? = some x := by
            rw [← h2, hq]
          rw [List.getLast?_eq_getElem?, List.length_take, Nat.min_eq_left (by omega), List.getElem?_take, if_pos (by omega)] at h3
          simpa using h3
      rw [rl_snoc, if_neg hlast]
      simp [lens]
theorem lens_le {l : List Bool} : ∀ z ∈ lens (runsL l), 0 ≤ z ∧ z ≤ l.length + 2 := by
  intro z hz
  obtain ⟨r, hr, rfl⟩ := List.mem_map.1 hz
  cases l with
  | nil => cases hr
  | cons b l =>
    have := rl_sum l b 1 r hr
    simp; omega
theorem lens_len (l : List Bool) : (lens (runsL l)).length ≤ l.length := by
  have key : ∀ (l : List Bool) (b : Bool) (n : Nat), (rl b n l).length ≤ l.length + 1 := by
    intro l
    induction l with
    | nil => intro b n; simp [rl]
    | cons c l ih =>
      intro b n
      unfold rl
      split
      · have := ih b (n + 1); simp; omega
      · have := ih c 1; simp; omega
  cases l with
  | nil => simp [runsL, lens]
  | cons b l => have := key l b 1; simpa [runsL, lens] using this
theorem f22_loop {β : Type} {k : Nat} {Q : β → Prop} {h0 : AH} {v : Value} {l : List Bool} (S : Bools h0 v l) (hl : l.length ≤ 2 ^ 30) {ke0 : Value → Value → Value → Value → AH → Option β} (n : Nat) :
    ∀ {i j : Nat} {h : AH} {ov : Value}, i + n = l.length → n < j → Stt Try.prog h0.n h0 h [] [(ov, 1, irows (lens (runsL (l.take i))))] →
      (∀ h' ov' y y', Stt Try.prog h0.n h0 h' [] [(ov', 1, irows (lens (runsL l)))] → Tl (ke0 v ov' y y' h') Q) →
      Tl (F22_lrlrr (eInv env k) k j v ov (.int .i64 i) h ke0) Q := by
  have hlen : ∀ h', pLen Try.prog #[22] v h' = some (.int .i64 l.length) := fun h' => Sl1.len S u22
  induction n with
  | zero =>
    intro i j h ov hi hj T hk
    obtain ⟨j, rfl⟩ : ∃ q, j = q + 1 := ⟨j - 1, by omega⟩
    simp only [F22_lrlrr]
    repeat (first | (with_reducible apply Tl.val; focus (simp (disch := omega) only [coreA, Int.reduceBEq, base_N10, hlen] <;> with_reducible rfl)) | (with_reducible first | refine Tl.brT ?_ | refine Tl.brF ?_ | refine Tl.gd_on ?_ | refine Tl.gd3_on ?_) | ((with_reducible first | apply Tl.brC | apply Tl.gdC | apply Tl.gd3C); focus (simp (disch := omega) only [coreA, Int.reduceBEq, base_N10, hlen] <;> with_reducible rfl)))
    rw [List.take_of_length_le (by omega)] at T
    exact hk _ _ _ _ T
  | succ n ih =>
    intro i j h ov hi hj T hk
    obtain ⟨j, rfl⟩ : ∃ q, j = q + 1 := ⟨j - 1, by omega⟩
    have hlt : i < l.length := by omega
    obtain ⟨x, hx⟩ : ∃ x, l[i]? = some x := ⟨_, List.getElem?_eq_getElem hlt⟩
    obtain ⟨b, o, hp, hc1⟩ := Sl1.at_ S (t := 22) (k := .i64) hx u22 sz4
    have hc1 := hc1 h T.grow
    have e : (i : Int) + 1 = ((i + 1 : Nat) : Int) := by omega
    have ll := lens_len (l.take i)
    have lt := List.length_take_le i l
    have push : (i = 0 ∨ l[i - 1]? ≠ some x) → ∀ (K : Value → AH → Option β), (∀ ov' h', K ov' h' = F22_lrlrr (eInv env k) k j v ov' (.int .i64 ((i + 1 : Nat) : Int)) h' ke0) →
        Tl (Ev.bnd (pBuildSlice Try.prog 25 1 #[(0, .int .i64 1)] h) fun x34 => Ev.bnd (pAppend Try.prog #[25, 25] ov x34.1 x34.2) fun x35 => K x35.1 x35.2) Q := fun hq K hK => by
      refine Tl.push T 0 rfl app25 (bs25 _ _) rfl rfl (by rw [irows_len]; omega) fun ov' h' T' => ?_
      rw [hK]
      refine ih (by omega) (by omega) ?_ hk
      rw [lens_new hx hq]
      simpa [irows, iv] using T'
    simp only [F22_lrlrr]
    unfold F22_lrllrlrr
    by_cases q0 : i = 0
    · repeat (first | (with_reducible apply Tl.val; focus (simp (disch := omega) only [coreA, Int.reduceBEq, base_N10, hlen] <;> with_reducible rfl)) | (with_reducible first | refine Tl.brT ?_ | refine Tl.brF ?_ | refine Tl.gd_on ?_ | refine Tl.gd3_on ?_) | ((with_reducible first | apply Tl.brC | apply Tl.gdC | apply Tl.gd3C); focus (simp (disch := omega) only [coreA, Int.reduceBEq, base_N10, hlen] <;> with_reducible rfl)))
      refine push (.inl q0) (fun ov' h' => Ev.bnd (pBin Try.prog Go.BinOp.add 3 (Go.Operand.tmp 9) (Go.Operand.const (Go.Value.int Go.IntKind.i64 1)) (.int .i64 (i : Int)) (Go.Value.int Go.IntKind.i64 1)) fun x10 => F22_lrlrr (eInv env k) k j v ov' x10 h' ke0) fun ov' h' => ?_
      simp only [bin_add, bnd_some, e, wr_i64 (show -9223372036854775808 ≤ ((i + 1 : Nat) : Int) ∧ ((i + 1 : Nat) : Int) ≤ 9223372036854775807 by omega)]
    · obtain ⟨y, hy⟩ : ∃ x, l[i - 1]? = some x := ⟨_, List.getElem?_eq_getElem (by omega)⟩
      obtain ⟨b2, o2, hp2, hc2⟩ := Sl1.at_ S (t := 22) (k := .i64) hy u22 sz4
      have hc2 := hc2 h T.grow
      have em : ((i - 1 : Nat) : Int) = (i : Int) - 1 := by omega
      rw [em] at hp2
      by_cases q : x = y
      · subst q
        have exx : (x == x) = true := by simp
        have hne : lens (runsL (l.take i)) ≠ [] := by
          cases l with
          | nil => simp at hx
          | cons b l =>
            obtain ⟨i, rfl⟩ : ∃ q, i = q + 1 := ⟨i - 1, by omega⟩
            simp only [List.take_succ_cons, runsL, lens]
            have := rl_ne (l.take i) b 1
            simpa using this
        have hpos := List.length_pos_iff.2 hne
        have hnl : ∀ h', pLen Try.prog #[25] ov h' = some (.int .i64 (lens (runsL (l.take i))).length) := fun h' => Sl1.len (T.sl1 (f := iv) 0 rfl) u25
        have eq1 : (lens (runsL (l.take i))).getLast? = some ((lens (runsL (l.take i))).getLast hne) := List.getLast?_eq_some_getLast hne
        have hlast : (lens (runsL (l.take i)))[(lens (runsL (l.take i))).length - 1]? = some ((lens (runsL (l.take i))).getLast hne) := by rw [← eq1, List.getLast?_eq_getElem?]
        obtain ⟨bm, emm, hmm⟩ := T.idx (t := 25) 0 rfl (kd := .i64) (j := (lens (runsL (l.take i))).length - 1) (by rw [irows_len]; omega) u25 (by kernel_rfl)
        obtain ⟨_, _, hp3, hc3⟩ := Sl1.at_ (T.sl1 (f := iv) 0 rfl) (t := 25) (k := .i64) hlast u25 (by kernel_rfl)
        rw [hmm] at hp3
        cases hp3
        have hc3 := hc3 h (Grow.refl _)
        have eml : (((lens (runsL (l.take i))).length - 1 : Nat) : Int) = ((lens (runsL (l.take i))).length : Int) - 1 := by omega
        rw [eml] at hmm
        obtain ⟨z0, z1⟩ := lens_le (l := l.take i) _ (List.getLast_mem hne)
        repeat (first | (with_reducible apply Tl.val; focus (simp (disch := omega) only [coreA, Int.reduceBEq, base_N10, hlen, hp, hc1, hp2, hc2, bv, exx, hnl, hmm, hc3, iv] <;> with_reducible rfl)) | (with_reducible first | refine Tl.brT ?_ | refine Tl.brF ?_ | refine Tl.gd_on ?_ | refine Tl.gd3_on ?_) | ((with_reducible first | apply Tl.brC | apply Tl.gdC | apply Tl.gd3C); focus (simp (disch := omega) only [coreA, Int.reduceBEq, base_N10, hlen, hp, hc1, hp2, hc2, bv, exx, hnl, hmm, hc3, iv] <;> with_reducible rfl)))
        refine Tl.setAt T 0 rfl emm (by rw [irows_len]; omega) rfl (by kernel_rfl) rfl fun h' T' => ?_
        repeat (first | (with_reducible apply Tl.val; focus (simp (disch := omega) only [coreA, Int.reduceBEq, base_N10] <;> with_reducible rfl)) | (with_reducible first | refine Tl.brT ?_ | refine Tl.brF ?_ | refine Tl.gd_on ?_ | refine Tl.gd3_on ?_) | ((with_reducible first | apply Tl.brC | apply Tl.gdC | apply Tl.gd3C); focus (simp (disch := omega) only [coreA, Int.reduceBEq, base_N10] <;> with_reducible rfl)))
        rw [e]
        refine ih (by omega) (by omega) ?_ hk
        rw [lens_same (by omega) hx hy, eq1]
        have es : (irows (lens (runsL (l.take i)))).set ((lens (runsL (l.take i))).length - 1) (Value.int .i64 ((lens (runsL (l.take i))).getLast hne + 1)).cells.toList = irows ((lens (runsL (l.take i))).dropLast ++ [((lens (runsL (l.take i))).getLast hne) + 1]) := by
          unfold irows
          have hs : (lens (runsL (l.take i))) = (lens (runsL (l.take i))).dropLast ++ [(lens (runsL (l.take i))).getLast hne] := (List.dropLast_concat_getLast hne).symm
          generalize (lens (runsL (l.take i))).getLast hne = z at hs
          generalize hdd : (lens (runsL (l.take i))).dropLast = dd at hs
          rw [hs, List.map_append, List.map_append, List.set_append_right _ _ (by simp)]
          simp [iv, Value.cells]
        have T'' : Stt Try.prog h0.n h0 h' [] [(ov, 1, (irows (lens (runsL (l.take i)))).set ((lens (runsL (l.take i))).length - 1) (Value.int .i64 ((lens (runsL (l.take i))).getLast hne + 1)).cells.toList)] := T'
        rw [es] at T''
        simpa using T''
      · have exy : (x == y) = false := by simpa using q
        repeat (first | (with_reducible apply Tl.val; focus (simp (disch := omega) only [coreA, Int.reduceBEq, base_N10, hlen, hp, hc1, hp2, hc2, bv, exy] <;> with_reducible rfl)) | (with_reducible first | refine Tl.brT ?_ | refine Tl.brF ?_ | refine Tl.gd_on ?_ | refine Tl.gd3_on ?_) | ((with_reducible first | apply Tl.brC | apply Tl.gdC | apply Tl.gd3C); focus (simp (disch := omega) only [coreA, Int.reduceBEq, base_N10, hlen, hp, hc1, hp2, hc2, bv, exy] <;> with_reducible rfl)))
        refine push (.inr fun h => q (by rw [hy] at h; exact (Option.some.inj h).symm)) (fun ov' h' => Ev.bnd (pBin Try.prog Go.BinOp.add 3 (Go.Operand.tmp 9) (Go.Operand.const (Go.Value.int Go.IntKind.i64 1)) (.int .i64 (i : Int)) (Go.Value.int Go.IntKind.i64 1)) fun x10 => F22_lrlrr (eInv env k) k j v ov' x10 h' ke0) fun ov' h' => ?_
        simp only [bin_add, bnd_some, e, wr_i64 (show -9223372036854775808 ≤ ((i + 1 : Nat) : Int) ∧ ((i + 1 : Nat) : Int) ≤ 9223372036854775807 by omega)]
theorem f22c {k : Nat} {h : AH} {v : Value} {l : List Bool} (S : Bools h v l) (hl : l.length ≤ 2 ^ 30) (hk : l.length < k) :
    Tl (eInv env (k + 1) (.func 22) #[] #[v] h) fun r => OwnB Try.prog h.n r.2 r.1 1 (irows (lens (runsL l))) ∧ Grow h r.2 := by
  rw [F22_call]
  unfold F22
  refine f22_loop S hl l.length (i := 0) (by omega) (by omega) ((Stt.init h).nil 1) fun h' ov' y y' T => ?_
  exact ⟨_, rfl, T.ret 0 rfl, T.grow⟩
end Go.Proofs.Ytoleebigheobcaa.Sh
