/- Rows held against each other. -/
import Derived.Test.YtjmfokglckaneaaSzVm
set_option linter.unusedVariables false
set_option linter.unusedSimpArgs false
set_option maxRecDepth 100000
namespace Go.Proofs.Ytjmfokglckaneaa.Sh
open Go Go.RowKit Go.Proofs.Ev
theorem base_Vv : type_of% (And.intro @ld3 (And.intro @ld37 (And.intro @ld45 (And.intro @ld23 (@Nat.add_zero))))) := And.intro @ld3 (And.intro @ld37 (And.intro @ld45 (And.intro @ld23 (@Nat.add_zero))))
theorem take_snoc {α : Type} {l : List α} {i : Nat} {x : α} (h : l[i]? = some x) : l.take (i + 1) = l.take i ++ [x] := by rw [List.take_add_one, h]; rfl
theorem ne_of_at {α : Type} {a b : List α} {i : Nat} {x y : α} (ha : a[i]? = some x) (hb : b[i]? = some y) (h : x ≠ y) : a ≠ b := by
  rintro rfl
  rw [ha] at hb
  exact h (Option.some.inj hb)
theorem f69_loop {β : Type} {k : Nat} {Q : β → Prop} {h0 : AH} {va vb : Value} {ra rb : List CellD} (A : Cells h0 va ra) (B : Cells h0 vb rb) (hl : ra.length ≤ 2 ^ 40) (hl2 : rb.length ≤ 2 ^ 40)
    {ke0 : Value → Value → Value → Value → Value → Value → Value → AH → Option β} {kr : Value → AH → Option β} (n : Nat) :
    ∀ {i j : Nat} {h : AH}, i + n = ra.length → n < j → i ≤ rb.length → ra.take i = rb.take i → Stt Try.prog h0.n h0 h [] [] →
      (ra.length ≤ rb.length → ra = rb.take ra.length → ∀ h' y1 y2 y3, Stt Try.prog h0.n h0 h' [] [] → Tl (ke0 va vb (.func (.func 70) #[] #[]) va y1 y2 y3 h') Q) →
      (∀ (z : Int) h', z ≠ 0 → ra ≠ rb → Stt Try.prog h0.n h0 h' [] [] → Tl (kr (.int .i64 z) h') Q) →
      Tl (F69_lrlr (eInv env (k + 9)) (k + 9) j va vb (.func (.func 70) #[] #[]) va (.int .i64 ra.length) (.int .i64 i) h ke0 kr) Q := by
  have hv : ∀ h', pLen Try.prog #[37] va h' = some (.int .i64 ra.length) := fun h' => A.len
  have hv2 : ∀ h', pLen Try.prog #[37] vb h' = some (.int .i64 rb.length) := fun h' => B.len
  induction n with
  | zero =>
    intro i j h hi hj hib ht S hk hr
    obtain ⟨j, rfl⟩ : ∃ q, j = q + 1 := ⟨j - 1, by omega⟩
    obtain rfl : i = ra.length := by omega
    simp only [F69_lrlr]
    repeat (first | (with_reducible apply Tl.val; focus (simp (disch := omega) only [coreA, Int.reduceBEq, base_Vv] <;> with_reducible rfl)) | (with_reducible first | refine Tl.brT ?_ | refine Tl.brF ?_ | refine Tl.gd_on ?_ | refine Tl.gd3_on ?_) | ((with_reducible first | apply Tl.brC | apply Tl.gdC | apply Tl.gd3C); focus (simp (disch := omega) only [coreA, Int.reduceBEq, base_Vv] <;> with_reducible rfl)))
    exact hk hib (by rw [← ht, List.take_length]) _ _ _ _ S
  | succ n ih =>
    intro i j h hi hj hib ht S hk hr
    obtain ⟨j, rfl⟩ : ∃ q, j = q + 1 := ⟨j - 1, by omega⟩
    obtain ⟨x, ex⟩ : ∃ x, ra[i]? = some x := ⟨_, List.getElem?_eq_getElem (by omega)⟩
    obtain ⟨b, o, hp, hrow⟩ := (A.grow S.grow).at_ ex
    have e : (i : Int) + 1 = ((i + 1 : Nat) : Int) := by omega
    simp only [F69_lrlr]
    repeat (first | (with_reducible apply Tl.val; focus (simp (disch := omega) only [coreA, Int.reduceBEq, base_Vv, hp, hrow] <;> with_reducible rfl)) | (with_reducible first | refine Tl.brT ?_ | refine Tl.brF ?_ | refine Tl.gd_on ?_ | refine Tl.gd3_on ?_) | ((with_reducible first | apply Tl.brC | apply Tl.gdC | apply Tl.gd3C); focus (simp (disch := omega) only [coreA, Int.reduceBEq, base_Vv, hp, hrow] <;> with_reducible rfl)))
    refine Tl.alloc' S ze45 (by rfl) fun b1 h1 S1 g1 => ?_
    refine Tl.store' S1 0 rfl sz45 rfl rfl (by simp [Value.cells]) fun h2 S2 k2 => ?_
    have S2 : Stt Try.prog h0.n h0 h2 [(b1, .cells (crow x) 45 true)] [] := S2
    by_cases q : i < rb.length
    · obtain ⟨y, ey⟩ : ∃ y, rb[i]? = some y := ⟨_, List.getElem?_eq_getElem (by omega)⟩
      obtain ⟨b', o', hp', hrow'⟩ := (B.grow S2.grow).at_ ey
      repeat (first | (with_reducible apply Tl.val; focus (simp (disch := omega) only [coreA, Int.reduceBEq, base_Vv, hv2, hp', hrow'] <;> with_reducible rfl)) | (with_reducible first | refine Tl.brT ?_ | refine Tl.brF ?_ | refine Tl.gd_on ?_ | refine Tl.gd3_on ?_) | ((with_reducible first | apply Tl.brC | apply Tl.gdC | apply Tl.gd3C); focus (simp (disch := omega) only [coreA, Int.reduceBEq, base_Vv, hv2, hp', hrow'] <;> with_reducible rfl)))
      refine Tl.alloc' S2 ze45 (by rfl) fun b3 h3 S3 g3 => ?_
      refine Tl.store' S3 0 rfl sz45 rfl rfl (by simp [Value.cells]) fun h4 S4 k4 => ?_
      have S4 : Stt Try.prog h0.n h0 h4 [(b3, .cells (crow y) 45 true), (b1, .cells (crow x) 45 true)] [] := S4
      have r1 : h4.row b1 0 3 = some (crow x) := S4.row 1 rfl rfl
      have r2 : h4.row b3 0 3 = some (crow y) := S4.row 0 rfl rfl
      repeat (first | (with_reducible apply Tl.val; focus (simp (disch := omega) only [coreA, Int.reduceBEq, base_Vv, r1, r2] <;> with_reducible rfl)) | (with_reducible first | refine Tl.brT ?_ | refine Tl.brF ?_ | refine Tl.gd_on ?_ | refine Tl.gd3_on ?_) | ((with_reducible first | apply Tl.brC | apply Tl.gdC | apply Tl.gd3C); focus (simp (disch := omega) only [coreA, Int.reduceBEq, base_Vv, r1, r2] <;> with_reducible rfl)))
      rw [callV_fn2]
      refine Tl.call' S4 (f70c (k := k) x y h4) fun h5 S5 g5 => ?_
      by_cases qz : x.cmp y = 0
      · repeat (first | (with_reducible apply Tl.val; focus (simp (disch := omega) only [coreA, Int.reduceBEq, base_Vv, qz] <;> with_reducible rfl)) | (with_reducible first | refine Tl.brT ?_ | refine Tl.brF ?_ | refine Tl.gd_on ?_ | refine Tl.gd3_on ?_) | ((with_reducible first | apply Tl.brC | apply Tl.gdC | apply Tl.gd3C); focus (simp (disch := omega) only [coreA, Int.reduceBEq, base_Vv, qz] <;> with_reducible rfl)))
        rw [e]
        have exy := (CellD.cmp_zero x y).1 qz
        exact ih (by omega) (by omega) (by omega) (by rw [take_snoc ex, take_snoc ey, ht, exy]) S5.drop.drop hk hr
      · repeat (first | (with_reducible apply Tl.val; focus (simp (disch := omega) only [coreA, Int.reduceBEq, base_Vv, qz] <;> with_reducible rfl)) | (with_reducible first | refine Tl.brT ?_ | refine Tl.brF ?_ | refine Tl.gd_on ?_ | refine Tl.gd3_on ?_) | ((with_reducible first | apply Tl.brC | apply Tl.gdC | apply Tl.gd3C); focus (simp (disch := omega) only [coreA, Int.reduceBEq, base_Vv, qz] <;> with_reducible rfl)))
        exact hr _ _ qz (ne_of_at ex ey fun e => qz ((CellD.cmp_zero x y).2 e)) S5.drop.drop
    · repeat (first | (with_reducible apply Tl.val; focus (simp (disch := omega) only [coreA, Int.reduceBEq, base_Vv, hv2] <;> with_reducible rfl)) | (with_reducible first | refine Tl.brT ?_ | refine Tl.brF ?_ | refine Tl.gd_on ?_ | refine Tl.gd3_on ?_) | ((with_reducible first | apply Tl.brC | apply Tl.gdC | apply Tl.gd3C); focus (simp (disch := omega) only [coreA, Int.reduceBEq, base_Vv, hv2] <;> with_reducible rfl)))
      exact hr 1 _ (by omega) (fun e => by rw [e] at hi; omega) S2.drop
theorem f69c {k : Nat} {h : AH} {va vb : Value} {ra rb : List CellD} (A : Cells h va ra) (B : Cells h vb rb) (hl : ra.length ≤ 2 ^ 40) (hl2 : rb.length ≤ 2 ^ 40) (hk : ra.length < k) :
    Tl (eInv env (k + 10) (.func 69) #[] #[va, vb, .func (.func 70) #[] #[]] h) fun r => (∃ z : Int, r.1 = .int .i64 z ∧ (z == 0) = decide (ra = rb)) ∧ Grow h r.2 := by
  rw [F69_call]
  unfold F69
  have hv : ∀ h', pLen Try.prog #[37] va h' = some (.int .i64 ra.length) := fun h' => A.len
  have hv2 : ∀ h', pLen Try.prog #[37] vb h' = some (.int .i64 rb.length) := fun h' => B.len
  repeat (first | (with_reducible apply Tl.val; focus (simp (disch := omega) only [coreA, Int.reduceBEq, base_Vv, hv] <;> with_reducible rfl)) | (with_reducible first | refine Tl.brT ?_ | refine Tl.brF ?_ | refine Tl.gd_on ?_ | refine Tl.gd3_on ?_) | ((with_reducible first | apply Tl.brC | apply Tl.gdC | apply Tl.gd3C); focus (simp (disch := omega) only [coreA, Int.reduceBEq, base_Vv, hv] <;> with_reducible rfl)))
  refine f69_loop A B hl hl2 ra.length (i := 0) (by omega) (by omega) (by omega) rfl (Stt.init h) (fun hle he h' y1 y2 y3 S => ?_) fun z h' hz hne S => ?_
  · by_cases q : ra.length < rb.length
    · repeat (first | (with_reducible apply Tl.val; focus (simp (disch := omega) only [coreA, Int.reduceBEq, base_Vv, hv, hv2] <;> with_reducible rfl)) | (with_reducible first | refine Tl.brT ?_ | refine Tl.brF ?_ | refine Tl.gd_on ?_ | refine Tl.gd3_on ?_) | ((with_reducible first | apply Tl.brC | apply Tl.gdC | apply Tl.gd3C); focus (simp (disch := omega) only [coreA, Int.reduceBEq, base_Vv, hv, hv2] <;> with_reducible rfl)))
      exact ⟨_, rfl, ⟨_, rfl, by rw [decide_eq_false (fun e => by rw [e] at q; omega)]; rfl⟩, S.grow⟩
    · repeat (first | (with_reducible apply Tl.val; focus (simp (disch := omega) only [coreA, Int.reduceBEq, base_Vv, hv, hv2] <;> with_reducible rfl)) | (with_reducible first | refine Tl.brT ?_ | refine Tl.brF ?_ | refine Tl.gd_on ?_ | refine Tl.gd3_on ?_) | ((with_reducible first | apply Tl.brC | apply Tl.gdC | apply Tl.gd3C); focus (simp (disch := omega) only [coreA, Int.reduceBEq, base_Vv, hv, hv2] <;> with_reducible rfl)))
      exact ⟨_, rfl, ⟨_, rfl, by rw [decide_eq_true (by rw [he, List.take_of_length_le (by omega)])]; rfl⟩, S.grow⟩
  · exact ⟨_, rfl, ⟨_, rfl, by rw [decide_eq_false hne]; simpa using hz⟩, S.grow⟩
theorem f46c {k : Nat} {h : AH} {va vb : Value} {ra rb : List CellD} (A : Cells h va ra) (B : Cells h vb rb) (hl : ra.length ≤ 2 ^ 40) (hl2 : rb.length ≤ 2 ^ 40) (hk : ra.length < k) :
    Tl (callV (eInv env (k + 12)) (.func (.func 46) #[] #[]) #[va, vb] h) fun r => r.1 = .bool (decide (ra = rb)) ∧ Grow h r.2 := by
  rw [callV_fn2, F46_call]
  unfold F46
  have T : Tl (eInv env (k + 11) (.func 47) #[] #[va, vb] h) fun r => (∃ z : Int, r.1 = .int .i64 z ∧ (z == 0) = decide (ra = rb)) ∧ Grow h r.2 := by
    rw [F47_call]
    unfold F47
    refine Tl.bind (f69c (k := k) A B hl hl2 hk) ?_
    rintro ⟨r, h1⟩ q
    exact ⟨_, rfl, q⟩
  refine Tl.bind T ?_
  rintro ⟨r, h1⟩ ⟨⟨z, er, hz⟩, g⟩
  simp only at er g
  subst er
  repeat (first | (with_reducible apply Tl.val; focus (simp (disch := omega) only [coreA, Int.reduceBEq, base_Vv] <;> with_reducible rfl)) | (with_reducible first | refine Tl.brT ?_ | refine Tl.brF ?_ | refine Tl.gd_on ?_ | refine Tl.gd3_on ?_) | ((with_reducible first | apply Tl.brC | apply Tl.gdC | apply Tl.gd3C); focus (simp (disch := omega) only [coreA, Int.reduceBEq, base_Vv] <;> with_reducible rfl)))
  exact ⟨_, rfl, by rw [hz], g⟩
theorem f45_loop {β : Type} {k : Nat} {Q : β → Prop} {h0 : AH} {va vb : Value} {ra rb : List (List CellD)} (A : Rows h0 va ra) (B : Rows h0 vb rb) (hl : ra.length ≤ 2 ^ 40) (hab : ra.length = rb.length)
    (ha : ∀ r ∈ ra, r.length ≤ 2 ^ 40 ∧ r.length < k) (hb : ∀ r ∈ rb, r.length ≤ 2 ^ 40) {ke0 : Value → Value → Value → Value → Value → Value → AH → Option β} {kr : Value → AH → Option β} (n : Nat) :
    ∀ {i j : Nat} {h : AH}, i + n = ra.length → n < j → ra.take i = rb.take i → Grow h0 h →
      (ra = rb → ∀ h' y1 y2 y3, Grow h0 h' → Tl (ke0 vb (.func (.func 46) #[] #[]) va y1 y2 y3 h') Q) →
      (∀ h', ra ≠ rb → Grow h0 h' → Tl (kr (.bool false) h') Q) →
      Tl (F45_lrlrr (eInv env (k + 12)) (k + 12) j vb (.func (.func 46) #[] #[]) va (.int .i64 ra.length) (.int .i64 i) h ke0 kr) Q := by
  induction n with
  | zero =>
    intro i j h hi hj ht g hk hr
    obtain ⟨j, rfl⟩ : ∃ q, j = q + 1 := ⟨j - 1, by omega⟩
    simp only [F45_lrlrr]
    repeat (first | (with_reducible apply Tl.val; focus (simp (disch := omega) only [coreA, Int.reduceBEq, base_Vv] <;> with_reducible rfl)) | (with_reducible first | refine Tl.brT ?_ | refine Tl.brF ?_ | refine Tl.gd_on ?_ | refine Tl.gd3_on ?_) | ((with_reducible first | apply Tl.brC | apply Tl.gdC | apply Tl.gd3C); focus (simp (disch := omega) only [coreA, Int.reduceBEq, base_Vv] <;> with_reducible rfl)))
    exact hk (by rwa [List.take_of_length_le (by omega), List.take_of_length_le (by omega)] at ht) _ _ _ _ g
  | succ n ih =>
    intro i j h hi hj ht g hk hr
    obtain ⟨j, rfl⟩ : ∃ q, j = q + 1 := ⟨j - 1, by omega⟩
    obtain ⟨x, ex⟩ : ∃ x, ra[i]? = some x := ⟨_, List.getElem?_eq_getElem (by omega)⟩
    obtain ⟨y, ey⟩ : ∃ y, rb[i]? = some y := ⟨_, List.getElem?_eq_getElem (by omega)⟩
    obtain ⟨b, o, w, hp, hc, C⟩ := (A.grow g).at_ ex
    obtain ⟨b', o', w', hp', hc', C'⟩ := (B.grow g).at_ ey
    have e : (i : Int) + 1 = ((i + 1 : Nat) : Int) := by omega
    obtain ⟨m1, m2⟩ := ha x (List.mem_of_getElem? ex)
    simp only [F45_lrlrr]
    repeat (first | (with_reducible apply Tl.val; focus (simp (disch := omega) only [coreA, Int.reduceBEq, base_Vv, hp, hc, hp', hc'] <;> with_reducible rfl)) | (with_reducible first | refine Tl.brT ?_ | refine Tl.brF ?_ | refine Tl.gd_on ?_ | refine Tl.gd3_on ?_) | ((with_reducible first | apply Tl.brC | apply Tl.gdC | apply Tl.gd3C); focus (simp (disch := omega) only [coreA, Int.reduceBEq, base_Vv, hp, hc, hp', hc'] <;> with_reducible rfl)))
    refine Tl.bind (f46c (k := k) C C' m1 (hb y (List.mem_of_getElem? ey)) m2) ?_
    rintro ⟨r, h1⟩ ⟨er, g1⟩
    simp only at er g1
    subst er
    by_cases q : x = y
    · rw [decide_eq_true q]
      repeat (first | (with_reducible apply Tl.val; focus (simp (disch := omega) only [coreA, Int.reduceBEq, base_Vv] <;> with_reducible rfl)) | (with_reducible first | refine Tl.brT ?_ | refine Tl.brF ?_ | refine Tl.gd_on ?_ | refine Tl.gd3_on ?_) | ((with_reducible first | apply Tl.brC | apply Tl.gdC | apply Tl.gd3C); focus (simp (disch := omega) only [coreA, Int.reduceBEq, base_Vv] <;> with_reducible rfl)))
      rw [e]
      exact ih (by omega) (by omega) (by rw [take_snoc ex, take_snoc ey, ht, q]) (g.trans g1) hk hr
    · rw [decide_eq_false q]
      repeat (first | (with_reducible apply Tl.val; focus (simp (disch := omega) only [coreA, Int.reduceBEq, base_Vv] <;> with_reducible rfl)) | (with_reducible first | refine Tl.brT ?_ | refine Tl.brF ?_ | refine Tl.gd_on ?_ | refine Tl.gd3_on ?_) | ((with_reducible first | apply Tl.brC | apply Tl.gdC | apply Tl.gd3C); focus (simp (disch := omega) only [coreA, Int.reduceBEq, base_Vv] <;> with_reducible rfl)))
      exact hr _ (ne_of_at ex ey q) (g.trans g1)
theorem f20c {k : Nat} {h : AH} {va vb : Value} {ra rb : List (List CellD)} (A : Rows h va ra) (B : Rows h vb rb) (hl : ra.length ≤ 2 ^ 40) (hl2 : rb.length ≤ 2 ^ 40) (ha : ∀ r ∈ ra, r.length ≤ 2 ^ 40 ∧ r.length < k) (hb : ∀ r ∈ rb, r.length ≤ 2 ^ 40) (hk : ra.length < k) :
    Tl (eInv env (k + 14) (.func 20) #[] #[va, vb] h) fun r => r.1 = .bool (decide (ra = rb)) ∧ Grow h r.2 := by
  rw [F20_call]
  unfold F20
  have hv : ∀ h', pLen Try.prog #[23] va h' = some (.int .i64 ra.length) := fun h' => A.len
  have hv2 : ∀ h', pLen Try.prog #[23] vb h' = some (.int .i64 rb.length) := fun h' => B.len
  have T : Tl (eInv env (k + 13) (.func 45) #[] #[va, vb, .func (.func 46) #[] #[]] h) fun r => r.1 = .bool (decide (ra = rb)) ∧ Grow h r.2 := by
    rw [F45_call]
    unfold F45
    by_cases q : ra.length = rb.length
    · repeat (first | (with_reducible apply Tl.val; focus (simp (disch := omega) only [coreA, Int.reduceBEq, base_Vv, hv, hv2] <;> with_reducible rfl)) | (with_reducible first | refine Tl.brT ?_ | refine Tl.brF ?_ | refine Tl.gd_on ?_ | refine Tl.gd3_on ?_) | ((with_reducible first | apply Tl.brC | apply Tl.gdC | apply Tl.gd3C); focus (simp (disch := omega) only [coreA, Int.reduceBEq, base_Vv, hv, hv2] <;> with_reducible rfl)))
      refine f45_loop A B hl q ha hb ra.length (i := 0) (by omega) (by omega) rfl (Grow.refl _) (fun e h' y1 y2 y3 g => ⟨_, rfl, ?_, g⟩) fun h' hne g => ⟨_, rfl, ?_, g⟩
      · rw [decide_eq_true e]
      · rw [decide_eq_false hne]
    · repeat (first | (with_reducible apply Tl.val; focus (simp (disch := omega) only [coreA, Int.reduceBEq, base_Vv, hv, hv2] <;> with_reducible rfl)) | (with_reducible first | refine Tl.brT ?_ | refine Tl.brF ?_ | refine Tl.gd_on ?_ | refine Tl.gd3_on ?_) | ((with_reducible first | apply Tl.brC | apply Tl.gdC | apply Tl.gd3C); focus (simp (disch := omega) only [coreA, Int.reduceBEq, base_Vv, hv, hv2] <;> with_reducible rfl)))
      exact ⟨_, rfl, by rw [decide_eq_false (fun e => q (by rw [e]))], Grow.refl _⟩
  refine Tl.bind T ?_
  rintro ⟨r, h1⟩ q
  exact ⟨_, rfl, q⟩
end Go.Proofs.Ytjmfokglckaneaa.Sh
