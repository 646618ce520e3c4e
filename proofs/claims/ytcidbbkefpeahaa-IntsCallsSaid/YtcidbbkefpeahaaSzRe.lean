/- The document's answer for columns of numbers: what is put. -/
import Derived.Test.YtcidbbkefpeahaaSzRa
import Derived.Test.YtcidbbkefpeahaaSzRp
import Derived.Test.YtcidbbkefpeahaaSzIe
set_option linter.unusedVariables false
set_option linter.unusedSimpArgs false
set_option maxRecDepth 100000
namespace Go.Proofs.Ytcidbbkefpeahaa.Sh
open Go Go.RowKit Go.Proofs.Ev
theorem base_Re : type_of% (And.intro @ld3 (And.intro @ld2 (And.intro @ld4 (And.intro @ld5 (And.intro @ld51 (And.intro @ld26 (And.intro @ld25 (And.intro @ld50 (And.intro (fun a h => conv_int (a := a) (h := h) u3 u51) (And.intro (fun a h => conv_int (a := a) (h := h) u2 u51) (And.intro (fun a h => conv_int (a := a) (h := h) u51 u5) (And.intro (fun a h => conv_int (a := a) (h := h) u51 u2) (And.intro (fun a h => conv_int (a := a) (h := h) u3 u5) (And.intro @ex2_0 (@ex2_1))))))))))))))) := And.intro @ld3 (And.intro @ld2 (And.intro @ld4 (And.intro @ld5 (And.intro @ld51 (And.intro @ld26 (And.intro @ld25 (And.intro @ld50 (And.intro (fun a h => conv_int (a := a) (h := h) u3 u51) (And.intro (fun a h => conv_int (a := a) (h := h) u2 u51) (And.intro (fun a h => conv_int (a := a) (h := h) u51 u5) (And.intro (fun a h => conv_int (a := a) (h := h) u51 u2) (And.intro (fun a h => conv_int (a := a) (h := h) u3 u5) (And.intro @ex2_0 (@ex2_1))))))))))))))
theorem f40c {k : Nat} {n0 : Nat} {h0 h : AH} {L : List (Nat × AO)} {O : List OS} {f n : Nat} (hn : n ≤ 100000) (S : Stt Try.prog n0 h0 h L O) :
    Tl (eInv env (k + 21) (.func 40) #[] #[.int .u8 (f : Int), .int .i64 (n : Int)] h) fun r => Stt Try.prog n0 h0 r.2 L ((r.1, 1, u8rows (headB f n)) :: O) := by
  rw [F40_call]
  unfold F40
  repeat (first | (with_reducible apply Tl.val; focus (simp (disch := omega) only [coreA, Int.reduceBEq, base_Re, bs26] <;> with_reducible rfl)) | (with_reducible first | refine Tl.brT ?_ | refine Tl.brF ?_ | refine Tl.gd_on ?_ | refine Tl.gd3_on ?_) | ((with_reducible first | apply Tl.brC | apply Tl.gdC | apply Tl.gd3C); focus (simp (disch := omega) only [coreA, Int.reduceBEq, base_Re, bs26] <;> with_reducible rfl)))
  have S1 : Stt Try.prog n0 h0 (h.alloc (.cells (u8rows [f]).flatten 5 true)) ((h.n, .cells (u8rows [f]).flatten 5 true) :: L) O := S.alloc _
  have S2 := S1.absorb (n := 1) (u8v_wide [f]) sz5
  have T := f42c (k := k) (l := [f]) n (by omega) (by simp) S2
  exact Tl.bind T fun r hr => ⟨_, rfl, hr⟩
/-! ### 'Plain' -/
theorem f18_loop {β : Type} {k : Nat} {Q : β → Prop} {h0 : AH} {v : Value} {l : List Int} (A : Ints h0 v l) (hl : l.length ≤ 5000) {ke0 : Value → Value → Value → Value → AH → Option β} (n : Nat) :
    ∀ {i j : Nat} {h : AH} {ov : Value} {done : List Nat}, i + n = l.length → n < j → done.length ≤ 20 + 8 * i → Stt Try.prog h0.n h0 h [] [(ov, 1, u8rows done)] →
      (∀ h' ov' y y', Stt Try.prog h0.n h0 h' [] [(ov', 1, u8rows (done ++ (l.drop i).flatMap fun z => le (toU z) 0 8))] → Tl (ke0 v ov' y y' h') Q) →
      Tl (F18_lrlrrr (eInv env (k + 20)) (k + 20) j v ov (.int .i64 i) h ke0) Q := by
  have hv : ∀ h', pLen Try.prog #[25] v h' = some (.int .i64 l.length) := fun h' => Sl1.len A u25
  induction n with
  | zero =>
    intro i j h ov done hi hj hd S hk
    obtain ⟨j, rfl⟩ : ∃ q, j = q + 1 := ⟨j - 1, by omega⟩
    simp only [F18_lrlrrr]
    repeat (first | (with_reducible apply Tl.val; focus (simp (disch := omega) only [coreA, Int.reduceBEq, base_Re, hv] <;> with_reducible rfl)) | (with_reducible first | refine Tl.brT ?_ | refine Tl.brF ?_ | refine Tl.gd_on ?_ | refine Tl.gd3_on ?_) | ((with_reducible first | apply Tl.brC | apply Tl.gdC | apply Tl.gd3C); focus (simp (disch := omega) only [coreA, Int.reduceBEq, base_Re, hv] <;> with_reducible rfl)))
    refine hk _ _ _ _ ?_
    rw [List.drop_eq_nil_of_le (by omega)]
    simpa using S
  | succ n ih =>
    intro i j h ov done hi hj hd S hk
    obtain ⟨j, rfl⟩ : ∃ q, j = q + 1 := ⟨j - 1, by omega⟩
    obtain ⟨x, hx⟩ : ∃ x, l[i]? = some x := ⟨_, List.getElem?_eq_getElem (by omega)⟩
    obtain ⟨b, o, hp, hc1⟩ := Sl1.at_ A (t := 25) (k := .i64) hx u25 sz2
    have hc1 := hc1 h S.grow
    have e : (i : Int) + 1 = ((i + 1 : Nat) : Int) := by omega
    simp only [F18_lrlrrr]
    repeat (first | (with_reducible apply Tl.val; focus (simp (disch := omega) only [coreA, Int.reduceBEq, base_Re, hv, hp, hc1, i6v, wrapU] <;> with_reducible rfl)) | (with_reducible first | refine Tl.brT ?_ | refine Tl.brF ?_ | refine Tl.gd_on ?_ | refine Tl.gd3_on ?_) | ((with_reducible first | apply Tl.brC | apply Tl.gdC | apply Tl.gd3C); focus (simp (disch := omega) only [coreA, Int.reduceBEq, base_Re, hv, hp, hc1, i6v, wrapU] <;> with_reducible rfl)))
    refine Tl.bind (f41c (k := k) (toU x) (by omega) S) ?_
    rintro ⟨ov2, h2⟩ S2
    simp only at S2
    repeat (first | (with_reducible apply Tl.val; focus (simp (disch := omega) only [coreA, Int.reduceBEq, base_Re] <;> with_reducible rfl)) | (with_reducible first | refine Tl.brT ?_ | refine Tl.brF ?_ | refine Tl.gd_on ?_ | refine Tl.gd3_on ?_) | ((with_reducible first | apply Tl.brC | apply Tl.gdC | apply Tl.gd3C); focus (simp (disch := omega) only [coreA, Int.reduceBEq, base_Re] <;> with_reducible rfl)))
    rw [e]
    refine ih (by omega) (by omega) (by simp [le_len]; omega) S2 fun h3 ov3 y y' S3 => hk h3 ov3 y y' ?_
    rw [dropc hx]
    simpa using S3
theorem f18c {k : Nat} {h : AH} {v : Value} {l : List Int} (A : Ints h v l) (hl : l.length ≤ 4096) (hk : l.length < k) :
    Tl (eInv env (k + 30) (.func 18) #[] #[v] h) fun r => ∃ o, r.1 = .tuple #[o, .int .i64 0] ∧ Grow h r.2 ∧ OwnB Try.prog h.n r.2 o 1 (u8rows (plainB l)) := by
  rw [F18_call]
  unfold F18
  have hv : ∀ h', pLen Try.prog #[25] v h' = some (.int .i64 l.length) := fun h' => Sl1.len A u25
  have h10 := pvarN_le10 (n := l.length) (by omega)
  repeat (first | (with_reducible apply Tl.val; focus (simp (disch := omega) only [coreA, Int.reduceBEq, base_Re, hv] <;> with_reducible rfl)) | (with_reducible first | refine Tl.brT ?_ | refine Tl.brF ?_ | refine Tl.gd_on ?_ | refine Tl.gd3_on ?_) | ((with_reducible first | apply Tl.brC | apply Tl.gdC | apply Tl.gd3C); focus (simp (disch := omega) only [coreA, Int.reduceBEq, base_Re, hv] <;> with_reducible rfl)))
  refine Tl.bind (f40c (k := k + 8) (f := 1) (n := l.length) (by omega) (Stt.init h)) ?_
  rintro ⟨ov, h1⟩ S1
  simp only at S1
  refine f18_loop (k := k + 9) A (by omega) l.length (i := 0) (by omega) (by omega) (by unfold headB; simp; omega) S1 fun h' ov' y y' S' => ?_
  exact ⟨_, rfl, _, rfl, S'.grow, S'.ret 0 rfl⟩
theorem f18n {k : Nat} {h : AH} {v : Value} {l : List Int} (A : Ints h v l) (hl : ¬ l.length ≤ 4096) : eInv env (k + 1) (.func 18) #[] #[v] h = some (.tuple #[.slice none 0 0, .int .i64 3], h) := by
  have T : Tl (F18 (eInv env k) k v h) fun r => r = (.tuple #[.slice none 0 0, .int .i64 3], h) := by
    unfold F18
    have hv : ∀ h', pLen Try.prog #[25] v h' = some (.int .i64 l.length) := fun h' => Sl1.len A u25
    repeat (first | (with_reducible apply Tl.val; focus (simp (disch := omega) only [coreA, Int.reduceBEq, base_Re, hv] <;> with_reducible rfl)) | (with_reducible first | refine Tl.brT ?_ | refine Tl.brF ?_ | refine Tl.gd_on ?_ | refine Tl.gd3_on ?_) | ((with_reducible first | apply Tl.brC | apply Tl.gdC | apply Tl.gd3C); focus (simp (disch := omega) only [coreA, Int.reduceBEq, base_Re, hv] <;> with_reducible rfl)))
    exact ⟨_, rfl, rfl⟩
  obtain ⟨r, h1, h2⟩ := T
  rw [F18_call, h1, h2]
theorem f19n {k : Nat} {h : AH} {v : Value} {l : List Int} (A : Ints h v l) (hl : ¬ l.length ≤ 4096) : eInv env (k + 1) (.func 19) #[] #[v] h = some (.tuple #[.slice none 0 0, .int .i64 3], h) := by
  have T : Tl (F19 (eInv env k) k v h) fun r => r = (.tuple #[.slice none 0 0, .int .i64 3], h) := by
    unfold F19
    have hv : ∀ h', pLen Try.prog #[25] v h' = some (.int .i64 l.length) := fun h' => Sl1.len A u25
    repeat (first | (with_reducible apply Tl.val; focus (simp (disch := omega) only [coreA, Int.reduceBEq, base_Re, hv] <;> with_reducible rfl)) | (with_reducible first | refine Tl.brT ?_ | refine Tl.brF ?_ | refine Tl.gd_on ?_ | refine Tl.gd3_on ?_) | ((with_reducible first | apply Tl.brC | apply Tl.gdC | apply Tl.gd3C); focus (simp (disch := omega) only [coreA, Int.reduceBEq, base_Re, hv] <;> with_reducible rfl)))
    exact ⟨_, rfl, rfl⟩
  obtain ⟨r, h1, h2⟩ := T
  rw [F19_call, h1, h2]
theorem f20n {k : Nat} {h : AH} {v : Value} {l : List Int} (A : Ints h v l) (hl : ¬ l.length ≤ 4096) : eInv env (k + 1) (.func 20) #[] #[v] h = some (.tuple #[.slice none 0 0, .int .i64 3], h) := by
  have T : Tl (F20 (eInv env k) k v h) fun r => r = (.tuple #[.slice none 0 0, .int .i64 3], h) := by
    unfold F20
    have hv : ∀ h', pLen Try.prog #[25] v h' = some (.int .i64 l.length) := fun h' => Sl1.len A u25
    repeat (first | (with_reducible apply Tl.val; focus (simp (disch := omega) only [coreA, Int.reduceBEq, base_Re, hv] <;> with_reducible rfl)) | (with_reducible first | refine Tl.brT ?_ | refine Tl.brF ?_ | refine Tl.gd_on ?_ | refine Tl.gd3_on ?_) | ((with_reducible first | apply Tl.brC | apply Tl.gdC | apply Tl.gd3C); focus (simp (disch := omega) only [coreA, Int.reduceBEq, base_Re, hv] <;> with_reducible rfl)))
    exact ⟨_, rfl, rfl⟩
  obtain ⟨r, h1, h2⟩ := T
  rw [F20_call, h1, h2]
/-! ### 'Runs' -/
def runT (b : Int) (l : List Int) : Nat := (l.takeWhile (· == b)).length
theorem runT_le (b : Int) (l : List Int) : runT b l ≤ l.length := by
  unfold runT
  exact (List.takeWhile_sublist _).length_le
theorem rli_run (l : List Int) : ∀ (b : Int) (n : Nat), rli b n l = (n + runT b l, b) :: runsI (l.drop (runT b l)) := by
  induction l with
  | nil => intro b n; simp [rli, runT, runsI]
  | cons c l ih =>
    intro b n
    unfold rli
    by_cases q : c = b
    · subst q
      have e : runT c (c :: l) = runT c l + 1 := by unfold runT; rw [List.takeWhile_cons_of_pos (by simp)]; rfl
      rw [if_pos rfl, ih, e, List.drop_succ_cons, show n + 1 + runT c l = n + (runT c l + 1) by omega]
    · have e : runT b (c :: l) = 0 := by unfold runT; rw [List.takeWhile_cons_of_neg (by simpa using q)]; rfl
      rw [if_neg q, e]
      rfl
theorem f19_in {β : Type} {k : Nat} {Q : β → Prop} {h : AH} {v x4 : Value} {l : List Int} {i : Nat} {x : Int} (A : Ints h v l) (hl : l.length ≤ 5000) (hx : l[i]? = some x) {ke2 : Value → Value → Value → Value → Value → AH → Option β} (n : Nat) :
    ∀ {q j : Nat}, q + n = l.length → n < j → (∀ y, Tl (ke2 v x4 (.int .i64 i) (.int .i64 ((q + runT x (l.drop q) : Nat) : Int)) y h) Q) →
      Tl (F19_llrlrllrlrrr (eInv env k) k j v x4 (.int .i64 i) (.int .i64 q) h ke2) Q := by
  have hv : ∀ h', pLen Try.prog #[25] v h' = some (.int .i64 l.length) := fun h' => Sl1.len A u25
  obtain ⟨b, o, hp, hc⟩ := Sl1.at_ A (t := 25) (k := .i64) hx u25 sz2
  have hc := hc h (Grow.refl _)
  induction n with
  | zero =>
    intro q j hq hj hk
    obtain ⟨j, rfl⟩ : ∃ q, j = q + 1 := ⟨j - 1, by omega⟩
    simp only [F19_llrlrllrlrrr]
    rw [List.drop_eq_nil_of_le (by omega)] at hk
    repeat (first | (with_reducible apply Tl.val; focus (simp (disch := omega) only [coreA, Int.reduceBEq, base_Re, hv] <;> with_reducible rfl)) | (with_reducible first | refine Tl.brT ?_ | refine Tl.brF ?_ | refine Tl.gd_on ?_ | refine Tl.gd3_on ?_) | ((with_reducible first | apply Tl.brC | apply Tl.gdC | apply Tl.gd3C); focus (simp (disch := omega) only [coreA, Int.reduceBEq, base_Re, hv] <;> with_reducible rfl)))
    exact hk _
  | succ n ih =>
    intro q j hq hj hk
    obtain ⟨j, rfl⟩ : ∃ q, j = q + 1 := ⟨j - 1, by omega⟩
    obtain ⟨y, hy⟩ : ∃ x, l[q]? = some x := ⟨_, List.getElem?_eq_getElem (by omega)⟩
    obtain ⟨b2, o2, hp2, hc2⟩ := Sl1.at_ A (t := 25) (k := .i64) hy u25 sz2
    have hc2 := hc2 h (Grow.refl _)
    have e : (q : Int) + 1 = ((q + 1 : Nat) : Int) := by omega
    simp only [F19_llrlrllrlrrr]
    rw [dropc hy] at hk
    by_cases z : y = x
    · subst z
      have er : runT y (y :: l.drop (q + 1)) = runT y (l.drop (q + 1)) + 1 := by unfold runT; rw [List.takeWhile_cons_of_pos (by simp)]; rfl
      rw [er] at hk
      repeat (first | (with_reducible apply Tl.val; focus (simp (disch := omega) only [coreA, Int.reduceBEq, base_Re, hv, hp, hc, hp2, hc2, i6v] <;> with_reducible rfl)) | (with_reducible first | refine Tl.brT ?_ | refine Tl.brF ?_ | refine Tl.gd_on ?_ | refine Tl.gd3_on ?_) | ((with_reducible first | apply Tl.brC | apply Tl.gdC | apply Tl.gd3C); focus (simp (disch := omega) only [coreA, Int.reduceBEq, base_Re, hv, hp, hc, hp2, hc2, i6v] <;> with_reducible rfl)))
      rw [e]
      refine ih (by omega) (by omega) fun y' => ?_
      have := hk y'
      rw [show q + (runT y (l.drop (q + 1)) + 1) = q + 1 + runT y (l.drop (q + 1)) by omega] at this
      exact this
    · have er : runT x (y :: l.drop (q + 1)) = 0 := by unfold runT; rw [List.takeWhile_cons_of_neg (by simpa using z)]; rfl
      rw [er] at hk
      repeat (first | (with_reducible apply Tl.val; focus (simp (disch := omega) only [coreA, Int.reduceBEq, base_Re, hv, hp, hc, hp2, hc2, i6v] <;> with_reducible rfl)) | (with_reducible first | refine Tl.brT ?_ | refine Tl.brF ?_ | refine Tl.gd_on ?_ | refine Tl.gd3_on ?_) | ((with_reducible first | apply Tl.brC | apply Tl.gdC | apply Tl.gd3C); focus (simp (disch := omega) only [coreA, Int.reduceBEq, base_Re, hv, hp, hc, hp2, hc2, i6v] <;> with_reducible rfl)))
      exact hk _
theorem f19_loop {β : Type} {k : Nat} {Q : β → Prop} {h0 : AH} {v : Value} {l : List Int} (A : Ints h0 v l) (hl : l.length ≤ 4096) (hkl : l.length < k) {ke0 : Value → Value → Value → Value → AH → Option β} (n : Nat) :
    ∀ {i j : Nat} {h : AH} {ov : Value} {done : List Nat}, i ≤ l.length → l.length - i ≤ n → n < j → done.length ≤ 20 + 18 * i → Stt Try.prog h0.n h0 h [] [(ov, 1, u8rows done)] →
      (∀ h' ov' y y', Stt Try.prog h0.n h0 h' [] [(ov', 1, u8rows (done ++ (runsI (l.drop i)).flatMap runB))] → Tl (ke0 v ov' y y' h') Q) →
      Tl (F19_lrlrrr (eInv env (k + 20)) (k + 20) j v ov (.int .i64 i) h ke0) Q := by
  have hv : ∀ h', pLen Try.prog #[25] v h' = some (.int .i64 l.length) := fun h' => Sl1.len A u25
  have stop : ∀ {i j : Nat} {h : AH} {ov : Value} {done : List Nat}, i = l.length → 0 < j → Stt Try.prog h0.n h0 h [] [(ov, 1, u8rows done)] →
      (∀ h' ov' y y', Stt Try.prog h0.n h0 h' [] [(ov', 1, u8rows (done ++ (runsI (l.drop i)).flatMap runB))] → Tl (ke0 v ov' y y' h') Q) →
      Tl (F19_lrlrrr (eInv env (k + 20)) (k + 20) j v ov (.int .i64 i) h ke0) Q := by
    intro i j h ov done hi hj S hk
    obtain ⟨j, rfl⟩ : ∃ q, j = q + 1 := ⟨j - 1, by omega⟩
    simp only [F19_lrlrrr]
    repeat (first | (with_reducible apply Tl.val; focus (simp (disch := omega) only [coreA, Int.reduceBEq, base_Re, hv] <;> with_reducible rfl)) | (with_reducible first | refine Tl.brT ?_ | refine Tl.brF ?_ | refine Tl.gd_on ?_ | refine Tl.gd3_on ?_) | ((with_reducible first | apply Tl.brC | apply Tl.gdC | apply Tl.gd3C); focus (simp (disch := omega) only [coreA, Int.reduceBEq, base_Re, hv] <;> with_reducible rfl)))
    refine hk _ _ _ _ ?_
    rw [List.drop_eq_nil_of_le (by omega)]
    simpa [runsI] using S
  induction n with
  | zero =>
    intro i j h ov done hi hn hj hd S hk
    exact stop (by omega) (by omega) S hk
  | succ n ih =>
    intro i j h ov done hi hn hj hd S hk
    by_cases q : i = l.length
    · exact stop q (by omega) S hk
    · obtain ⟨j, rfl⟩ : ∃ q, j = q + 1 := ⟨j - 1, by omega⟩
      obtain ⟨x, hx⟩ : ∃ x, l[i]? = some x := ⟨_, List.getElem?_eq_getElem (by omega)⟩
      obtain ⟨b, o, hp, hc1⟩ := Sl1.at_ A (t := 25) (k := .i64) hx u25 sz2
      simp only [F19_lrlrrr]
      repeat (first | (with_reducible apply Tl.val; focus (simp (disch := omega) only [coreA, Int.reduceBEq, base_Re, hv] <;> with_reducible rfl)) | (with_reducible first | refine Tl.brT ?_ | refine Tl.brF ?_ | refine Tl.gd_on ?_ | refine Tl.gd3_on ?_) | ((with_reducible first | apply Tl.brC | apply Tl.gdC | apply Tl.gd3C); focus (simp (disch := omega) only [coreA, Int.reduceBEq, base_Re, hv] <;> with_reducible rfl)))
      refine f19_in (k := k + 20) (Sl1.grow A S.grow) (by omega) hx (l.length - i) (by omega) (by omega) fun y => ?_
      have hr : runT x (l.drop i) = runT x (l.drop (i + 1)) + 1 := by
        rw [dropc hx]
        unfold runT; rw [List.takeWhile_cons_of_pos (by simp)]; rfl
      have hle := runT_le x (l.drop (i + 1))
      rw [List.length_drop] at hle
      have e : ((i + runT x (l.drop i) : Nat) : Int) - (i : Int) = ((runT x (l.drop i) : Nat) : Int) := by omega
      have h10 := pvarN_le10 (n := runT x (l.drop i)) (by omega)
      repeat (first | (with_reducible apply Tl.val; focus (simp (disch := omega) only [coreA, Int.reduceBEq, base_Re] <;> with_reducible rfl)) | (with_reducible first | refine Tl.brT ?_ | refine Tl.brF ?_ | refine Tl.gd_on ?_ | refine Tl.gd3_on ?_) | ((with_reducible first | apply Tl.brC | apply Tl.gdC | apply Tl.gd3C); focus (simp (disch := omega) only [coreA, Int.reduceBEq, base_Re] <;> with_reducible rfl)))
      rw [e]
      refine Tl.bind (f42c (k := k) (runT x (l.drop i)) (by omega) (by omega) S) ?_
      rintro ⟨ov2, h2⟩ S2
      simp only at S2
      have hc2 := hc1 h2 S2.grow
      repeat (first | (with_reducible apply Tl.val; focus (simp (disch := omega) only [coreA, Int.reduceBEq, base_Re, hp, hc2, i6v, wrapU] <;> with_reducible rfl)) | (with_reducible first | refine Tl.brT ?_ | refine Tl.brF ?_ | refine Tl.gd_on ?_ | refine Tl.gd3_on ?_) | ((with_reducible first | apply Tl.brC | apply Tl.gdC | apply Tl.gd3C); focus (simp (disch := omega) only [coreA, Int.reduceBEq, base_Re, hp, hc2, i6v, wrapU] <;> with_reducible rfl)))
      refine Tl.bind (f41c (k := k) (toU x) (by simp only [List.length_append]; omega) S2) ?_
      rintro ⟨ov3, h3⟩ S3
      simp only at S3
      repeat (first | (with_reducible apply Tl.val; focus (simp (disch := omega) only [coreA, Int.reduceBEq, base_Re] <;> with_reducible rfl)) | (with_reducible first | refine Tl.brT ?_ | refine Tl.brF ?_ | refine Tl.gd_on ?_ | refine Tl.gd3_on ?_) | ((with_reducible first | apply Tl.brC | apply Tl.gdC | apply Tl.gd3C); focus (simp (disch := omega) only [coreA, Int.reduceBEq, base_Re] <;> with_reducible rfl)))
      refine ih (done := done ++ pvarN (runT x (l.drop i)) ++ le (toU x) 0 8) (by omega) (by omega) (by omega) (by simp [le_len]; omega) S3 fun h4 ov4 y y' S4 => hk h4 ov4 y y' ?_
      have hrun : runsI (l.drop i) = (runT x (l.drop i), x) :: runsI (l.drop (i + runT x (l.drop i))) := by
        rw [dropc hx]
        show rli x 1 (l.drop (i + 1)) = _
        have hr' : runT x (x :: l.drop (i + 1)) = runT x (l.drop (i + 1)) + 1 := by rw [← dropc hx]; exact hr
        rw [rli_run, hr', List.drop_drop, show 1 + runT x (l.drop (i + 1)) = runT x (l.drop (i + 1)) + 1 by omega, show i + 1 + runT x (l.drop (i + 1)) = i + (runT x (l.drop (i + 1)) + 1) by omega]
      rw [hrun]
      simpa [runB] using S4
theorem f19c {k : Nat} {h : AH} {v : Value} {l : List Int} (A : Ints h v l) (hl : l.length ≤ 4096) (hk : l.length < k) :
    Tl (eInv env (k + 30) (.func 19) #[] #[v] h) fun r => ∃ o, r.1 = .tuple #[o, .int .i64 0] ∧ Grow h r.2 ∧ OwnB Try.prog h.n r.2 o 1 (u8rows (runsB l)) := by
  rw [F19_call]
  unfold F19
  have hv : ∀ h', pLen Try.prog #[25] v h' = some (.int .i64 l.length) := fun h' => Sl1.len A u25
  have h10 := pvarN_le10 (n := l.length) (by omega)
  repeat (first | (with_reducible apply Tl.val; focus (simp (disch := omega) only [coreA, Int.reduceBEq, base_Re, hv] <;> with_reducible rfl)) | (with_reducible first | refine Tl.brT ?_ | refine Tl.brF ?_ | refine Tl.gd_on ?_ | refine Tl.gd3_on ?_) | ((with_reducible first | apply Tl.brC | apply Tl.gdC | apply Tl.gd3C); focus (simp (disch := omega) only [coreA, Int.reduceBEq, base_Re, hv] <;> with_reducible rfl)))
  refine Tl.bind (f40c (k := k + 8) (f := 2) (n := l.length) (by omega) (Stt.init h)) ?_
  rintro ⟨ov, h1⟩ S1
  simp only at S1
  refine f19_loop (k := k + 9) A hl (by omega) l.length (i := 0) (by omega) (by omega) (by omega) (by unfold headB; simp; omega) S1 fun h' ov' y y' S' => ?_
  rw [List.drop_zero] at S'
  exact ⟨_, rfl, _, rfl, S'.grow, S'.ret 0 rfl⟩
/-! ### 'Packed' -/
theorem minI_snoc (l : List Int) (x : Int) : minI (l ++ [x]) = if l.length = 0 ∨ x < minI l then x else minI l := by
  cases l with
  | nil => rfl
  | cons a l =>
    show (l ++ [x]).foldl _ a = _
    rw [List.foldl_append]
    simp [minI]
theorem f20_min {β : Type} {k : Nat} {Q : β → Prop} {h : AH} {v : Value} {l : List Int} (A : Ints h v l) (hl : l.length ≤ 5000) {ke0 : Value → Value → Value → Value → AH → Option β} (n : Nat) :
    ∀ {i j : Nat}, i + n = l.length → n < j → (∀ y y', Tl (ke0 v (.int .i64 (minI l)) y y' h) Q) → Tl (F20_lrlrrr (eInv env k) k j v (.int .i64 (minI (l.take i))) (.int .i64 i) h ke0) Q := by
  have hv : ∀ h', pLen Try.prog #[25] v h' = some (.int .i64 l.length) := fun h' => Sl1.len A u25
  induction n with
  | zero =>
    intro i j hi hj hk
    obtain ⟨j, rfl⟩ : ∃ q, j = q + 1 := ⟨j - 1, by omega⟩
    simp only [F20_lrlrrr]
    repeat (first | (with_reducible apply Tl.val; focus (simp (disch := omega) only [coreA, Int.reduceBEq, base_Re, hv] <;> with_reducible rfl)) | (with_reducible first | refine Tl.brT ?_ | refine Tl.brF ?_ | refine Tl.gd_on ?_ | refine Tl.gd3_on ?_) | ((with_reducible first | apply Tl.brC | apply Tl.gdC | apply Tl.gd3C); focus (simp (disch := omega) only [coreA, Int.reduceBEq, base_Re, hv] <;> with_reducible rfl)))
    rw [List.take_of_length_le (by omega)]
    exact hk _ _
  | succ n ih =>
    intro i j hi hj hk
    obtain ⟨j, rfl⟩ : ∃ q, j = q + 1 := ⟨j - 1, by omega⟩
    obtain ⟨x, hx⟩ : ∃ x, l[i]? = some x := ⟨_, List.getElem?_eq_getElem (by omega)⟩
    obtain ⟨b, o, hp, hc⟩ := Sl1.at_ A (t := 25) (k := .i64) hx u25 sz2
    have hc := hc h (Grow.refl _)
    have e : (i : Int) + 1 = ((i + 1 : Nat) : Int) := by omega
    have ht : l.take (i + 1) = l.take i ++ [x] := by rw [List.take_add_one, hx]; rfl
    have hm := minI_snoc (l.take i) x
    rw [← ht, List.length_take, Nat.min_eq_left (by omega)] at hm
    have go := ih (i := i + 1) (j := j) (by omega) (by omega) hk
    rw [hm] at go
    simp only [F20_lrlrrr]
    unfold F20_lrllrlrrr
    by_cases q : i = 0
    · rw [if_pos (.inl q)] at go
      repeat (first | (with_reducible apply Tl.val; focus (simp (disch := omega) only [coreA, Int.reduceBEq, base_Re, hv, hp, hc, i6v] <;> with_reducible rfl)) | (with_reducible first | refine Tl.brT ?_ | refine Tl.brF ?_ | refine Tl.gd_on ?_ | refine Tl.gd3_on ?_) | ((with_reducible first | apply Tl.brC | apply Tl.gdC | apply Tl.gd3C); focus (simp (disch := omega) only [coreA, Int.reduceBEq, base_Re, hv, hp, hc, i6v] <;> with_reducible rfl)))
      rw [e]
      exact go
    · by_cases q2 : x < minI (l.take i)
      · rw [if_pos (.inr q2)] at go
        repeat (first | (with_reducible apply Tl.val; focus (simp (disch := omega) only [coreA, Int.reduceBEq, base_Re, hv, hp, hc, i6v] <;> with_reducible rfl)) | (with_reducible first | refine Tl.brT ?_ | refine Tl.brF ?_ | refine Tl.gd_on ?_ | refine Tl.gd3_on ?_) | ((with_reducible first | apply Tl.brC | apply Tl.gdC | apply Tl.gd3C); focus (simp (disch := omega) only [coreA, Int.reduceBEq, base_Re, hv, hp, hc, i6v] <;> with_reducible rfl)))
        rw [e]
        exact go
      · rw [if_neg (by omega)] at go
        repeat (first | (with_reducible apply Tl.val; focus (simp (disch := omega) only [coreA, Int.reduceBEq, base_Re, hv, hp, hc, i6v] <;> with_reducible rfl)) | (with_reducible first | refine Tl.brT ?_ | refine Tl.brF ?_ | refine Tl.gd_on ?_ | refine Tl.gd3_on ?_) | ((with_reducible first | apply Tl.brC | apply Tl.gdC | apply Tl.gd3C); focus (simp (disch := omega) only [coreA, Int.reduceBEq, base_Re, hv, hp, hc, i6v] <;> with_reducible rfl)))
        rw [e]
        exact go
theorem f20_loop {β : Type} {k : Nat} {Q : β → Prop} {h0 : AH} {v : Value} {l : List Int} {m : Int} (A : Ints h0 v l) (hl : l.length ≤ 5000) {ke0 : Value → Value → Value → Value → Value → AH → Option β} (n : Nat) :
    ∀ {i j : Nat} {h : AH} {ov : Value} {done : List Nat}, i + n = l.length → n < j → done.length = i → Stt Try.prog h0.n h0 h [] [(ov, 1, u64rows done)] →
      (∀ h' ov' y y', Stt Try.prog h0.n h0 h' [] [(ov', 1, u64rows (done ++ (l.drop i).map fun z => toU (z - m)))] → Tl (ke0 v (.int .i64 m) ov' y y' h') Q) →
      Tl (F20_lrlrrrrr (eInv env k) k j v (.int .i64 m) ov (.int .i64 i) h ke0) Q := by
  have hv : ∀ h', pLen Try.prog #[25] v h' = some (.int .i64 l.length) := fun h' => Sl1.len A u25
  induction n with
  | zero =>
    intro i j h ov done hi hj hd S hk
    obtain ⟨j, rfl⟩ : ∃ q, j = q + 1 := ⟨j - 1, by omega⟩
    simp only [F20_lrlrrrrr]
    repeat (first | (with_reducible apply Tl.val; focus (simp (disch := omega) only [coreA, Int.reduceBEq, base_Re, hv] <;> with_reducible rfl)) | (with_reducible first | refine Tl.brT ?_ | refine Tl.brF ?_ | refine Tl.gd_on ?_ | refine Tl.gd3_on ?_) | ((with_reducible first | apply Tl.brC | apply Tl.gdC | apply Tl.gd3C); focus (simp (disch := omega) only [coreA, Int.reduceBEq, base_Re, hv] <;> with_reducible rfl)))
    refine hk _ _ _ _ ?_
    rw [List.drop_eq_nil_of_le (by omega)]
    simpa using S
  | succ n ih =>
    intro i j h ov done hi hj hd S hk
    obtain ⟨j, rfl⟩ : ∃ q, j = q + 1 := ⟨j - 1, by omega⟩
    obtain ⟨x, hx⟩ : ∃ x, l[i]? = some x := ⟨_, List.getElem?_eq_getElem (by omega)⟩
    obtain ⟨b, o, hp, hc1⟩ := Sl1.at_ A (t := 25) (k := .i64) hx u25 sz2
    have hc1 := hc1 h S.grow
    have e : (i : Int) + 1 = ((i + 1 : Nat) : Int) := by omega
    have cx : pConv Try.prog 2 51 (.int .i64 x) h = some (.int .u64 (toU x : Int)) := by rw [conv_int u2 u51, wrapU]
    have cm : pConv Try.prog 2 51 (.int .i64 m) h = some (.int .u64 (toU m : Int)) := by rw [conv_int u2 u51, wrapU]
    have sb : ∀ t a b, pBin Try.prog Go.BinOp.sub t a b (.int .u64 (toU x : Int)) (.int .u64 (toU m : Int)) = some (.int .u64 (toU (x - m) : Int)) := fun t a b => by rw [bin_sub, toU_sub]
    simp only [F20_lrlrrrrr]
    refine Tl.val (hv _) ?_
    with_reducible apply Tl.val
    · focus (simp (disch := omega) only [coreA, base_Re, dlt_t] <;> with_reducible rfl)
    with_reducible refine Tl.brT ?_
    with_reducible apply Tl.val
    · exact hp
    with_reducible apply Tl.val
    · rw [ld2]; exact hc1
    refine Tl.val cx ?_
    refine Tl.val cm ?_
    refine Tl.val (sb _ _ _) ?_
    refine Tl.push S 0 rfl app50 (bs50 _ _) rfl rfl (by rw [u64rows_len]; omega) fun ov2 h2 S2 => ?_
    repeat (first | (with_reducible apply Tl.val; focus (simp (disch := omega) only [coreA, Int.reduceBEq, base_Re] <;> with_reducible rfl)) | (with_reducible first | refine Tl.brT ?_ | refine Tl.brF ?_ | refine Tl.gd_on ?_ | refine Tl.gd3_on ?_) | ((with_reducible first | apply Tl.brC | apply Tl.gdC | apply Tl.gd3C); focus (simp (disch := omega) only [coreA, Int.reduceBEq, base_Re] <;> with_reducible rfl)))
    rw [e]
    refine ih (done := done ++ [toU (x - m)]) (by omega) (by omega) (by simp [hd]) (by simpa [u64rows, u64v] using S2) fun h3 ov3 y y' S3 => hk h3 ov3 y y' ?_
    rw [dropc hx]
    simpa using S3
theorem f43c {k : Nat} {h : AH} {v : Value} {l : List Nat} (A : Words h v l) (hl : l.length ≤ 2 ^ 40) (hx : ∀ x ∈ l, x < 18446744073709551616) (hk : l.length < k) : eInv env (k + 81) (.func 43) #[] #[v] h = some (.int .i64 (Pk.widthN l), h) := Pk.f20c A.pk hl hx hk
theorem f44c {k : Nat} {h : AH} {v : Value} {l : List Nat} (A : Words h v l) (hl : l.length ≤ 65536) (hlk : l.length < k) (hx : ∀ x ∈ l, x < 18446744073709551616) (n : Int) :
    Tl (eInv env (k + 101) (.func 44) #[] #[v, .int .i64 n] h) fun r => ∃ o, r.1 = .tuple #[o, .int .i64 (Pk.putE l n)] ∧ Grow h r.2 ∧ OwnB Try.prog h.n r.2 o 1 (u8rows (Pk.putL l n)) := by
  have := Pk.f17c (k := k) A.pk hl hlk hx n
  rw [pk_brow] at this
  exact this
theorem f49c {k : Nat} {h : AH} {v : Value} {bs : List Nat} (A : Bytes h v bs) (hb : ∀ x ∈ bs, x < 256) (hbl : bs.length ≤ 2 ^ 30) (n w : Int) (hkn : Pk.checkE bs n w = 0 → n.toNat < k) (hk8 : 8 * bs.length < k) :
    Tl (eInv env (k + 90) (.func 49) #[] #[v, .int .i64 n, .int .i64 w] h) fun r => ∃ o, r.1 = .tuple #[o, .int .i64 (Pk.checkE bs n w)] ∧ Grow h r.2 ∧ OwnB Try.prog h.n r.2 o 1 (u64rows (Pk.getN bs n w)) := by
  have := Pk.f18c (k := k) A.pk hb hbl n w hkn hk8
  rw [pk_wrow] at this
  exact this
theorem f20c {k : Nat} {h : AH} {v : Value} {l : List Int} (A : Ints h v l) (hl : l.length ≤ 4096) (hk : l.length < k) :
    Tl (eInv env (k + 500) (.func 20) #[] #[v] h) fun r => ∃ o, r.1 = .tuple #[o, .int .i64 0] ∧ Grow h r.2 ∧ OwnB Try.prog h.n r.2 o 1 (u8rows (packB l)) := by
  rw [F20_call]
  unfold F20
  have hv : ∀ h', pLen Try.prog #[25] v h' = some (.int .i64 l.length) := fun h' => Sl1.len A u25
  have h10 := pvarN_le10 (n := l.length) (by omega)
  have hw := widI_le l
  repeat (first | (with_reducible apply Tl.val; focus (simp (disch := omega) only [coreA, Int.reduceBEq, base_Re, hv] <;> with_reducible rfl)) | (with_reducible first | refine Tl.brT ?_ | refine Tl.brF ?_ | refine Tl.gd_on ?_ | refine Tl.gd3_on ?_) | ((with_reducible first | apply Tl.brC | apply Tl.gdC | apply Tl.gd3C); focus (simp (disch := omega) only [coreA, Int.reduceBEq, base_Re, hv] <;> with_reducible rfl)))
  refine f20_min (k := k + 499) A (by omega) l.length (i := 0) (by omega) (by omega) fun y1 y2 => ?_
  refine f20_loop A (by omega) l.length (i := 0) (done := []) (by omega) (by omega) rfl ((Stt.init h).nil 1) fun h1 ov y y' S1 => ?_
  simp only [List.drop_zero, List.nil_append] at S1
  have S1 : Stt Try.prog h.n h h1 [] [(ov, 1, u64rows (moreI l))] := S1
  have ml : (moreI l).length = l.length := by simp [moreI]
  have W : Words h1 ov (moreI l) := S1.sl1 0 rfl
  have wid := f43c (k := k + 418) W (by omega) (moreI_lt l) (by omega)
  have wid : eInv env (k + 499) (.func 43) #[] #[ov] h1 = some (.int .i64 (widI l), h1) := wid
  repeat (first | (with_reducible apply Tl.val; focus (simp (disch := omega) only [coreA, Int.reduceBEq, base_Re, wid] <;> with_reducible rfl)) | (with_reducible first | refine Tl.brT ?_ | refine Tl.brF ?_ | refine Tl.gd_on ?_ | refine Tl.gd3_on ?_) | ((with_reducible first | apply Tl.brC | apply Tl.gdC | apply Tl.gd3C); focus (simp (disch := omega) only [coreA, Int.reduceBEq, base_Re, wid] <;> with_reducible rfl)))
  refine Tl.bind (f44c (k := k + 398) W (by omega) (by omega) (moreI_lt l) (widI l : Int)) ?_
  rintro ⟨r, h2⟩ ⟨pv, er, g2, X⟩
  simp only at er g2 X
  subst er
  have pe : Pk.putE (moreI l) (widI l : Int) = 0 := Pk.putE_of (W := widI l) (by omega) hw (Nat.le_refl _)
  have pl : Pk.putL (moreI l) (widI l : Int) = putN (widI l) (moreI l) := by unfold Pk.putL; rw [if_pos pe]; rfl
  rw [pl] at X
  have S2 := S1.gain g2 X
  repeat (first | (with_reducible apply Tl.val; focus (simp (disch := omega) only [coreA, Int.reduceBEq, base_Re, hv] <;> with_reducible rfl)) | (with_reducible first | refine Tl.brT ?_ | refine Tl.brF ?_ | refine Tl.gd_on ?_ | refine Tl.gd3_on ?_) | ((with_reducible first | apply Tl.brC | apply Tl.gdC | apply Tl.gd3C); focus (simp (disch := omega) only [coreA, Int.reduceBEq, base_Re, hv] <;> with_reducible rfl)))
  refine Tl.bind (f40c (k := k + 478) (f := 3) (n := l.length) (by omega) S2) ?_
  rintro ⟨hv2, h3⟩ S3
  simp only at S3
  repeat (first | (with_reducible apply Tl.val; focus (simp (disch := omega) only [coreA, Int.reduceBEq, base_Re, wrapU] <;> with_reducible rfl)) | (with_reducible first | refine Tl.brT ?_ | refine Tl.brF ?_ | refine Tl.gd_on ?_ | refine Tl.gd3_on ?_) | ((with_reducible first | apply Tl.brC | apply Tl.gdC | apply Tl.gd3C); focus (simp (disch := omega) only [coreA, Int.reduceBEq, base_Re, wrapU] <;> with_reducible rfl)))
  refine Tl.bind (f41c (k := k + 479) (toU (minI l)) (by unfold headB; simp; omega) S3) ?_
  rintro ⟨hv3, h4⟩ S4
  simp only at S4
  repeat (first | (with_reducible apply Tl.val; focus (simp (disch := omega) only [coreA, Int.reduceBEq, base_Re] <;> with_reducible rfl)) | (with_reducible first | refine Tl.brT ?_ | refine Tl.brF ?_ | refine Tl.gd_on ?_ | refine Tl.gd3_on ?_) | ((with_reducible first | apply Tl.brC | apply Tl.gdC | apply Tl.gd3C); focus (simp (disch := omega) only [coreA, Int.reduceBEq, base_Re] <;> with_reducible rfl)))
  refine Tl.push S4 0 rfl app26 (bs26 _ _) rfl rfl (by rw [u8rows_len]; unfold headB; simp [le_len]; omega) fun hv4 h5 S5 => ?_
  have S5 : Stt Try.prog h.n h h5 [] [(hv4, 1, u8rows (headB 3 l.length ++ le (toU (minI l)) 0 8) ++ [[.int .u8 (widI l : Int)]]), (pv, 1, u8rows (putN (widI l) (moreI l))), (ov, 1, u64rows (moreI l))] := S5
  have hpl := putN_len (w := widI l) ml hw (by omega)
  refine Tl.append' S5 0 rfl app26 (S5.slV 1 rfl) (one_u8rows _) (by rw [List.length_append, u8rows_len, u8rows_len]; unfold headB; simp [le_len]; omega) fun hv5 h6 S6 => ?_
  repeat (first | (with_reducible apply Tl.val; focus (simp (disch := omega) only [coreA, Int.reduceBEq, base_Re] <;> with_reducible rfl)) | (with_reducible first | refine Tl.brT ?_ | refine Tl.brF ?_ | refine Tl.gd_on ?_ | refine Tl.gd3_on ?_) | ((with_reducible first | apply Tl.brC | apply Tl.gdC | apply Tl.gd3C); focus (simp (disch := omega) only [coreA, Int.reduceBEq, base_Re] <;> with_reducible rfl)))
  refine ⟨_, rfl, hv5, rfl, S6.grow, ?_⟩
  have R := S6.ret 0 rfl
  have e3 : u8rows (headB 3 l.length ++ le (toU (minI l)) 0 8) ++ [[.int .u8 (widI l : Int)]] ++ u8rows (putN (widI l) (moreI l)) = u8rows (packB l) := by
    unfold packB
    simp [u8rows, u8v]
  rw [e3] at R
  exact R
end Go.Proofs.Ytcidbbkefpeahaa.Sh
