/- The document's answer for columns of numbers: 'Put', 'Get'; columns that are too long. -/
import Derived.Test.YtcidbbkefpeahaaSzRe
set_option linter.unusedVariables false
set_option linter.unusedSimpArgs false
set_option maxRecDepth 100000
namespace Go.Proofs.Ytcidbbkefpeahaa.Sh
open Go Go.RowKit Go.Proofs.Ev
theorem base_Rf : type_of% (And.intro @ld3 (And.intro @ld2 (And.intro @ld4 (And.intro @ld5 (And.intro @ld51 (And.intro @ld26 (And.intro @ld25 (And.intro @ld50 (And.intro @ld46 (And.intro @ld29 (And.intro @fa46_0 (And.intro @fa46_1 (And.intro @fa46_2 (And.intro @ld71 (And.intro @fa71_0 (And.intro @nilCQ (And.intro (fun a h => conv_int (a := a) (h := h) u3 u51) (And.intro (fun a h => conv_int (a := a) (h := h) u2 u51) (And.intro (fun a h => conv_int (a := a) (h := h) u51 u5) (And.intro (fun a h => conv_int (a := a) (h := h) u51 u2) (And.intro (fun a h => conv_int (a := a) (h := h) u51 u3) (And.intro (fun a h => conv_int (a := a) (h := h) u3 u5) (And.intro @ex2_0 (@ex2_1)))))))))))))))))))))))) := And.intro @ld3 (And.intro @ld2 (And.intro @ld4 (And.intro @ld5 (And.intro @ld51 (And.intro @ld26 (And.intro @ld25 (And.intro @ld50 (And.intro @ld46 (And.intro @ld29 (And.intro @fa46_0 (And.intro @fa46_1 (And.intro @fa46_2 (And.intro @ld71 (And.intro @fa71_0 (And.intro @nilCQ (And.intro (fun a h => conv_int (a := a) (h := h) u3 u51) (And.intro (fun a h => conv_int (a := a) (h := h) u2 u51) (And.intro (fun a h => conv_int (a := a) (h := h) u51 u5) (And.intro (fun a h => conv_int (a := a) (h := h) u51 u2) (And.intro (fun a h => conv_int (a := a) (h := h) u51 u3) (And.intro (fun a h => conv_int (a := a) (h := h) u3 u5) (And.intro @ex2_0 (@ex2_1)))))))))))))))))))))))
theorem f21c {k : Nat} {h : AH} {v : Value} {l : List Int} (A : Ints h v l) (hl : l.length ≤ 4096) (hk : l.length < k) :
    Tl (eInv env (k + 501) (.func 21) #[] #[v] h) fun r => ∃ o, r.1 = .tuple #[o, .int .i64 0] ∧ Grow h r.2 ∧ Bytes r.2 o (putI l) := by
  rw [F21_call]
  unfold F21
  refine Tl.bind (f18c (k := k + 470) A hl (by omega)) ?_
  rintro ⟨r, h1⟩ ⟨p1, er, g1, X1⟩
  simp only at er g1 X1
  subst er
  have S1 := (Stt.init h : Stt Try.prog h.n h h [] []).gain g1 X1
  repeat (first | (with_reducible apply Tl.val; focus (simp (disch := omega) only [coreA, Int.reduceBEq, base_Rf] <;> with_reducible rfl)) | (with_reducible first | refine Tl.brT ?_ | refine Tl.brF ?_ | refine Tl.gd_on ?_ | refine Tl.gd3_on ?_) | ((with_reducible first | apply Tl.brC | apply Tl.gdC | apply Tl.gd3C); focus (simp (disch := omega) only [coreA, Int.reduceBEq, base_Rf] <;> with_reducible rfl)))
  refine Tl.bind (f19c (k := k + 470) (Sl1.grow A S1.grow) hl (by omega)) ?_
  rintro ⟨r, h2⟩ ⟨p2, er, g2, X2⟩
  simp only at er g2 X2
  subst er
  have S2 := S1.gain g2 X2
  have l1 : ∀ h', pLen Try.prog #[26] p1 h' = some (.int .i64 (plainB l).length) := fun h' => Bytes.len (S2.sl1 (f := u8v) (l := plainB l) 1 rfl)
  have l2 : ∀ h', pLen Try.prog #[26] p2 h' = some (.int .i64 (runsB l).length) := fun h' => Bytes.len (S2.sl1 (f := u8v) (l := runsB l) 0 rfl)
  unfold F21_rlrrrr F21_rlrrrrrr putI
  simp only
  by_cases q1 : (runsB l).length < (plainB l).length
  · simp only [if_pos q1]
    repeat (first | (with_reducible apply Tl.val; focus (simp (disch := omega) only [coreA, Int.reduceBEq, base_Rf, l1, l2] <;> with_reducible rfl)) | (with_reducible first | refine Tl.brT ?_ | refine Tl.brF ?_ | refine Tl.gd_on ?_ | refine Tl.gd3_on ?_) | ((with_reducible first | apply Tl.brC | apply Tl.gdC | apply Tl.gd3C); focus (simp (disch := omega) only [coreA, Int.reduceBEq, base_Rf, l1, l2] <;> with_reducible rfl)))
    refine Tl.bind (f20c (k := k) (Sl1.grow A S2.grow) hl (by omega)) ?_
    rintro ⟨r, h3⟩ ⟨p3, er, g3, X3⟩
    simp only at er g3 X3
    subst er
    have S3 := S2.gain g3 X3
    have l3 : ∀ h', pLen Try.prog #[26] p3 h' = some (.int .i64 (packB l).length) := fun h' => Bytes.len (S3.sl1 (f := u8v) (l := packB l) 0 rfl)
    by_cases q2 : (packB l).length < (runsB l).length
    · rw [if_pos q2]
      repeat (first | (with_reducible apply Tl.val; focus (simp (disch := omega) only [coreA, Int.reduceBEq, base_Rf, l2, l3] <;> with_reducible rfl)) | (with_reducible first | refine Tl.brT ?_ | refine Tl.brF ?_ | refine Tl.gd_on ?_ | refine Tl.gd3_on ?_) | ((with_reducible first | apply Tl.brC | apply Tl.gdC | apply Tl.gd3C); focus (simp (disch := omega) only [coreA, Int.reduceBEq, base_Rf, l2, l3] <;> with_reducible rfl)))
      exact ⟨_, rfl, _, rfl, S3.grow, S3.sl1 (f := u8v) 0 rfl⟩
    · rw [if_neg q2]
      repeat (first | (with_reducible apply Tl.val; focus (simp (disch := omega) only [coreA, Int.reduceBEq, base_Rf, l2, l3] <;> with_reducible rfl)) | (with_reducible first | refine Tl.brT ?_ | refine Tl.brF ?_ | refine Tl.gd_on ?_ | refine Tl.gd3_on ?_) | ((with_reducible first | apply Tl.brC | apply Tl.gdC | apply Tl.gd3C); focus (simp (disch := omega) only [coreA, Int.reduceBEq, base_Rf, l2, l3] <;> with_reducible rfl)))
      exact ⟨_, rfl, _, rfl, S3.grow, S3.sl1 (f := u8v) 1 rfl⟩
  · simp only [if_neg q1]
    repeat (first | (with_reducible apply Tl.val; focus (simp (disch := omega) only [coreA, Int.reduceBEq, base_Rf, l1, l2] <;> with_reducible rfl)) | (with_reducible first | refine Tl.brT ?_ | refine Tl.brF ?_ | refine Tl.gd_on ?_ | refine Tl.gd3_on ?_) | ((with_reducible first | apply Tl.brC | apply Tl.gdC | apply Tl.gd3C); focus (simp (disch := omega) only [coreA, Int.reduceBEq, base_Rf, l1, l2] <;> with_reducible rfl)))
    refine Tl.bind (f20c (k := k) (Sl1.grow A S2.grow) hl (by omega)) ?_
    rintro ⟨r, h3⟩ ⟨p3, er, g3, X3⟩
    simp only at er g3 X3
    subst er
    have S3 := S2.gain g3 X3
    have l3 : ∀ h', pLen Try.prog #[26] p3 h' = some (.int .i64 (packB l).length) := fun h' => Bytes.len (S3.sl1 (f := u8v) (l := packB l) 0 rfl)
    by_cases q2 : (packB l).length < (plainB l).length
    · rw [if_pos q2]
      repeat (first | (with_reducible apply Tl.val; focus (simp (disch := omega) only [coreA, Int.reduceBEq, base_Rf, l1, l3] <;> with_reducible rfl)) | (with_reducible first | refine Tl.brT ?_ | refine Tl.brF ?_ | refine Tl.gd_on ?_ | refine Tl.gd3_on ?_) | ((with_reducible first | apply Tl.brC | apply Tl.gdC | apply Tl.gd3C); focus (simp (disch := omega) only [coreA, Int.reduceBEq, base_Rf, l1, l3] <;> with_reducible rfl)))
      exact ⟨_, rfl, _, rfl, S3.grow, S3.sl1 (f := u8v) 0 rfl⟩
    · rw [if_neg q2]
      repeat (first | (with_reducible apply Tl.val; focus (simp (disch := omega) only [coreA, Int.reduceBEq, base_Rf, l1, l3] <;> with_reducible rfl)) | (with_reducible first | refine Tl.brT ?_ | refine Tl.brF ?_ | refine Tl.gd_on ?_ | refine Tl.gd3_on ?_) | ((with_reducible first | apply Tl.brC | apply Tl.gdC | apply Tl.gd3C); focus (simp (disch := omega) only [coreA, Int.reduceBEq, base_Rf, l1, l3] <;> with_reducible rfl)))
      exact ⟨_, rfl, _, rfl, S3.grow, S3.sl1 (f := u8v) 2 rfl⟩
theorem f21n {k : Nat} {h : AH} {v : Value} {l : List Int} (A : Ints h v l) (hl : ¬ l.length ≤ 4096) : eInv env (k + 2) (.func 21) #[] #[v] h = some (.tuple #[.slice none 0 0, .int .i64 3], h) := by
  have T : Tl (F21 (eInv env (k + 1)) (k + 1) v h) fun r => r = (.tuple #[.slice none 0 0, .int .i64 3], h) := by
    unfold F21
    have e := f18n (k := k) A hl
    repeat (first | (with_reducible apply Tl.val; focus (simp (disch := omega) only [coreA, Int.reduceBEq, base_Rf, e] <;> with_reducible rfl)) | (with_reducible first | refine Tl.brT ?_ | refine Tl.brF ?_ | refine Tl.gd_on ?_ | refine Tl.gd3_on ?_) | ((with_reducible first | apply Tl.brC | apply Tl.gdC | apply Tl.gd3C); focus (simp (disch := omega) only [coreA, Int.reduceBEq, base_Rf, e] <;> with_reducible rfl)))
    exact ⟨_, rfl, rfl⟩
  obtain ⟨r, h1, h2⟩ := T
  rw [F21_call, h1, h2]
/-! ### Columns that are too long -/
theorem f13n {k : Nat} {h : AH} {v : Value} {l : List Int} (A : Ints h v l) (hl : ¬ l.length ≤ 4096) : eInv env (k + 1) (.func 13) #[] #[v] h = some (.tuple #[.slice none 0 0, .int .i64 3], h) := by
  have T : Tl (F13 (eInv env k) k v h) fun r => r = (.tuple #[.slice none 0 0, .int .i64 3], h) := by
    unfold F13
    have hv : ∀ h', pLen Try.prog #[25] v h' = some (.int .i64 l.length) := fun h' => Sl1.len A u25
    repeat (first | (with_reducible apply Tl.val; focus (simp (disch := omega) only [coreA, Int.reduceBEq, base_Rf, hv] <;> with_reducible rfl)) | (with_reducible first | refine Tl.brT ?_ | refine Tl.brF ?_ | refine Tl.gd_on ?_ | refine Tl.gd3_on ?_) | ((with_reducible first | apply Tl.brC | apply Tl.gdC | apply Tl.gd3C); focus (simp (disch := omega) only [coreA, Int.reduceBEq, base_Rf, hv] <;> with_reducible rfl)))
    exact ⟨_, rfl, rfl⟩
  obtain ⟨r, h1, h2⟩ := T
  rw [F13_call, h1, h2]
theorem f14n {k : Nat} {h : AH} {v : Value} {l : List Int} (A : Ints h v l) (hl : ¬ l.length ≤ 4096) : eInv env (k + 1) (.func 14) #[] #[v] h = some (.tuple #[.slice none 0 0, .int .i64 3], h) := by
  have T : Tl (F14 (eInv env k) k v h) fun r => r = (.tuple #[.slice none 0 0, .int .i64 3], h) := by
    unfold F14
    have hv : ∀ h', pLen Try.prog #[25] v h' = some (.int .i64 l.length) := fun h' => Sl1.len A u25
    repeat (first | (with_reducible apply Tl.val; focus (simp (disch := omega) only [coreA, Int.reduceBEq, base_Rf, hv] <;> with_reducible rfl)) | (with_reducible first | refine Tl.brT ?_ | refine Tl.brF ?_ | refine Tl.gd_on ?_ | refine Tl.gd3_on ?_) | ((with_reducible first | apply Tl.brC | apply Tl.gdC | apply Tl.gd3C); focus (simp (disch := omega) only [coreA, Int.reduceBEq, base_Rf, hv] <;> with_reducible rfl)))
    exact ⟨_, rfl, rfl⟩
  obtain ⟨r, h1, h2⟩ := T
  rw [F14_call, h1, h2]
theorem f11n {k : Nat} {h : AH} {v : Value} {l : List Int} (A : Ints h v l) (hl : ¬ l.length ≤ 4096) : eInv env (k + 1) (.func 11) #[] #[v] h = some (.tuple #[.slice none 0 0, .int .i64 3], h) := by
  have T : Tl (F11 (eInv env k) k v h) fun r => r = (.tuple #[.slice none 0 0, .int .i64 3], h) := by
    unfold F11
    have hv : ∀ h', pLen Try.prog #[25] v h' = some (.int .i64 l.length) := fun h' => Sl1.len A u25
    repeat (first | (with_reducible apply Tl.val; focus (simp (disch := omega) only [coreA, Int.reduceBEq, base_Rf, hv] <;> with_reducible rfl)) | (with_reducible first | refine Tl.brT ?_ | refine Tl.brF ?_ | refine Tl.gd_on ?_ | refine Tl.gd3_on ?_) | ((with_reducible first | apply Tl.brC | apply Tl.gdC | apply Tl.gd3C); focus (simp (disch := omega) only [coreA, Int.reduceBEq, base_Rf, hv] <;> with_reducible rfl)))
    exact ⟨_, rfl, rfl⟩
  obtain ⟨r, h1, h2⟩ := T
  rw [F11_call, h1, h2]
theorem callV_fn (inv : Inv) (f : Nat) (v : Value) (h : AH) : callV inv (fnV f) #[v] h = inv (.func f) #[] #[v] h := by
  have : callV inv (fnV f) #[v] h = inv (.func f) #[] (#[] ++ #[v]) h := rfl
  rw [this]; simp
theorem f10_long {β : Type} {k : Nat} {Q : β → Prop} {h0 h : AH} {v av : Value} {l : List Int} {fb j : Nat} (A : Ints h0 v l) (hl : ¬ l.length ≤ 4096) (S : Stt Try.prog h0.n h0 h [Fb fb] [])
    {ke0 : Value → Value → Value → Value → Value → Value → AH → Option β} {kr : Value → Value → AH → Option β} (hk : ∀ h', Stt Try.prog h0.n h0 h' [Fb fb] [] → Tl (kr (.slice none 0 0) (.int .i64 3) h') Q) :
    Tl (F10_lrlrr (eInv env (k + 1)) (k + 1) (j + 1) v av (.slice (some ⟨fb, 0, none⟩) 3 3) (.int .i64 3) (.int .i64 0) h ke0 kr) Q := by
  have hp : pIndexAddr Try.prog 42 (.slice (some ⟨fb, 0, none⟩) 3 3) (.int .i64 0) = some (.pointer (some ⟨fb, 0, none⟩)) := (indexAddr_slice (i := 0) u42 sz46 (by omega) (by omega)).trans (by simp)
  have hfl : formsC.length = 9 := rfl
  have hr : h.row fb 0 3 = some (formR 1 13 50) := by
    have hg : h.get fb = some (.cells formsC 46 true) := S.sta.mem.at_ (i := 0) rfl
    rw [row_of hg, if_pos (by rw [hfl]; omega)]
    rfl
  simp only [F10_lrlrr]
  repeat (first | (with_reducible apply Tl.val; focus (simp (disch := omega) only [coreA, Int.reduceBEq, base_Rf, hp, hr] <;> with_reducible rfl)) | (with_reducible first | refine Tl.brT ?_ | refine Tl.brF ?_ | refine Tl.gd_on ?_ | refine Tl.gd3_on ?_) | ((with_reducible first | apply Tl.brC | apply Tl.gdC | apply Tl.gd3C); focus (simp (disch := omega) only [coreA, Int.reduceBEq, base_Rf, hp, hr] <;> with_reducible rfl)))
  refine Tl.alloc' S ze46 rfl fun b6 h2 S2 g1 => ?_
  refine Tl.store' S2 0 rfl sz46 rfl rfl (of_decide_eq_true rfl) fun h3 S3 g3 => ?_
  have S3 : Stt Try.prog h0.n h0 h3 ((b6, .cells (formR 1 13 50) 46 true) :: [Fb fb]) [] := S3
  have c1 := S3.cell 0 (o := 1) (v := fnV 13) rfl rfl
  repeat (first | (with_reducible apply Tl.val; focus (simp (disch := omega) only [coreA, Int.reduceBEq, base_Rf, c1] <;> with_reducible rfl)) | (with_reducible first | refine Tl.brT ?_ | refine Tl.brF ?_ | refine Tl.gd_on ?_ | refine Tl.gd3_on ?_) | ((with_reducible first | apply Tl.brC | apply Tl.gdC | apply Tl.gd3C); focus (simp (disch := omega) only [coreA, Int.reduceBEq, base_Rf, c1] <;> with_reducible rfl)))
  have ep := f13n (k := k) (Sl1.grow A S3.grow) hl
  rw [callV_fn, ep]
  repeat (first | (with_reducible apply Tl.val; focus (simp (disch := omega) only [coreA, Int.reduceBEq, base_Rf] <;> with_reducible rfl)) | (with_reducible first | refine Tl.brT ?_ | refine Tl.brF ?_ | refine Tl.gd_on ?_ | refine Tl.gd3_on ?_) | ((with_reducible first | apply Tl.brC | apply Tl.gdC | apply Tl.gd3C); focus (simp (disch := omega) only [coreA, Int.reduceBEq, base_Rf] <;> with_reducible rfl)))
  exact hk _ S3.drop
theorem f10n {k : Nat} {h : AH} {v : Value} {l : List Int} (A : Ints h v l) (hl : ¬ l.length ≤ 4096) : Tl (eInv env (k + 10) (.func 10) #[] #[v] h) fun r => r.1 = .tuple #[.slice none 0 0, .int .i64 3] ∧ Grow h r.2 := by
  rw [F10_call]
  unfold F10
  refine Tl.bind (f24c (k := k + 8) (Stt.init h)) ?_
  rintro ⟨r, h1⟩ ⟨fb, er, S1⟩
  simp only at er S1
  subst er
  have hv : ∀ h' : AH, pLen Try.prog #[42] (.slice (some ⟨fb, 0, none⟩) 3 3) h' = some (.int .i64 3) := fun h' => len_slice u42
  repeat (first | (with_reducible apply Tl.val; focus (simp (disch := omega) only [coreA, Int.reduceBEq, base_Rf, hv] <;> with_reducible rfl)) | (with_reducible first | refine Tl.brT ?_ | refine Tl.brF ?_ | refine Tl.gd_on ?_ | refine Tl.gd3_on ?_) | ((with_reducible first | apply Tl.brC | apply Tl.gdC | apply Tl.gd3C); focus (simp (disch := omega) only [coreA, Int.reduceBEq, base_Rf, hv] <;> with_reducible rfl)))
  refine f10_long (k := k + 8) (j := k + 8) A hl S1 fun h' S' => ?_
  exact ⟨_, rfl, rfl, S'.grow⟩
/-! ### 'Get' -/
section
variable {n0 : Nat} {h0 h : AH} {L : List (Nat × AO)} {O : List OS} {br : Nat} {rv : Value} {rest : List Nat}
theorem f48_in {β : Type} {k : Nat} {Q : β → Prop} {x0 x1 : Value} {w : Nat} (hw : w < 18446744073709551616) {ke2 : Value → Value → Value → Value → Value → Value → AH → Option β} (c : Nat) :
    ∀ {j : Nat} {h : AH} {ov y : Value} {done : List Int}, c < j → c ≤ 4096 → done.length + c ≤ 10000 → Stt Try.prog n0 h0 h L ((ov, 1, i6rows done) :: O) →
      (∀ h' ov' y7 y', Stt Try.prog n0 h0 h' L ((ov', 1, i6rows (done ++ List.replicate c (toI w))) :: O) → Tl (ke2 x0 x1 ov' y7 (.int .u64 (w : Int)) y' h') Q) →
      Tl (F48_lrrrlrlllrr (eInv env k) k j x0 x1 ov (.int .u64 (c : Int)) (.int .u64 (w : Int)) y h ke2) Q := by
  have o8 := wrapI hw
  induction c with
  | zero =>
    intro j h ov y done hj hc hd S hk
    obtain ⟨j, rfl⟩ : ∃ q, j = q + 1 := ⟨j - 1, by omega⟩
    simp only [F48_lrrrlrlllrr]
    repeat (first | (with_reducible apply Tl.val; focus (simp (disch := omega) only [coreA, Int.reduceBEq, base_Rf] <;> with_reducible rfl)) | (with_reducible first | refine Tl.brT ?_ | refine Tl.brF ?_ | refine Tl.gd_on ?_ | refine Tl.gd3_on ?_) | ((with_reducible first | apply Tl.brC | apply Tl.gdC | apply Tl.gd3C); focus (simp (disch := omega) only [coreA, Int.reduceBEq, base_Rf] <;> with_reducible rfl)))
    exact hk _ _ _ _ (by simpa using S)
  | succ c ih =>
    intro j h ov y done hj hc hd S hk
    obtain ⟨j, rfl⟩ : ∃ q, j = q + 1 := ⟨j - 1, by omega⟩
    have e : ((c + 1 : Nat) : Int) - 1 = (c : Int) := by omega
    simp only [F48_lrrrlrlllrr]
    repeat (first | (with_reducible apply Tl.val; focus (simp (disch := omega) only [coreA, Int.reduceBEq, base_Rf, o8] <;> with_reducible rfl)) | (with_reducible first | refine Tl.brT ?_ | refine Tl.brF ?_ | refine Tl.gd_on ?_ | refine Tl.gd3_on ?_) | ((with_reducible first | apply Tl.brC | apply Tl.gdC | apply Tl.gd3C); focus (simp (disch := omega) only [coreA, Int.reduceBEq, base_Rf, o8] <;> with_reducible rfl)))
    refine Tl.push S 0 rfl app25 (bs25 _ _) rfl rfl (by rw [i6rows_len]; omega) fun ov' h2 S2 => ?_
    repeat (first | (with_reducible apply Tl.val; focus (simp (disch := omega) only [coreA, Int.reduceBEq, base_Rf] <;> with_reducible rfl)) | (with_reducible first | refine Tl.brT ?_ | refine Tl.brF ?_ | refine Tl.gd_on ?_ | refine Tl.gd3_on ?_) | ((with_reducible first | apply Tl.brC | apply Tl.gdC | apply Tl.gd3C); focus (simp (disch := omega) only [coreA, Int.reduceBEq, base_Rf] <;> with_reducible rfl)))
    rw [e]
    refine ih (done := done ++ [toI w]) (by omega) (by omega) (by simp; omega) (by simpa [i6rows, i6v] using S2) fun h' ov2 y7 y' S3 => hk h' ov2 y7 y' ?_
    rw [List.replicate_succ]
    simpa using S3
theorem f48_loop {β : Type} {k : Nat} {Q : β → Prop} {m : Nat} (hm : m ≤ 4096)
    {ke0 : Value → Value → Value → Value → AH → Option β} {kr : Value → Value → AH → Option β} (f : Nat) :
    ∀ {n j : Nat} {h : AH} {rv ov z1 z2 z3 : Value} {rest : List Nat} {done : List Int}, n ≤ f → f < j → done.length + n = m → rest.length ≤ 5000 → (∀ x ∈ rest, x < 256) →
      Stt Try.prog n0 h0 h (Qb br rv :: L) ((ov, 1, i6rows done) :: O) → RV (Qb br rv :: L) 0 rv rest →
      (∀ l, runsG f n rest = some l → ∀ h' rv' ov' y, Stt Try.prog n0 h0 h' (Qb br rv' :: L) ((ov', 1, i6rows (done ++ l)) :: O) → Tl (ke0 (ptr br) (.int .i64 m) ov' y h') Q) →
      (runsG f n rest = none → ∀ h', Stt Try.prog n0 h0 h' L O → Tl (kr (.slice none 0 0) (.bool false) h') Q) →
      Tl (F48_llrr (eInv env (k + 5999)) (k + 5999) j (ptr br) (.int .i64 m) ov z1 z2 z3 h ke0 kr) Q := by
  have e8 : ((8 : Nat) : Int) = 8 := rfl
  induction f with
  | zero =>
    intro n j h rv ov z1 z2 z3 rest done hf hj hd hl hb S R hk hr
    obtain ⟨j, rfl⟩ : ∃ q, j = q + 1 := ⟨j - 1, by omega⟩
    have hn : n = 0 := by omega
    subst hn
    have hlen : ∀ h', pLen Try.prog #[25] ov h' = some (.int .i64 done.length) := fun h' => Sl1.len (S.sl1 (f := i6v) 0 rfl) u25
    simp only [F48_llrr]
    repeat (first | (with_reducible apply Tl.val; focus (simp (disch := omega) only [coreA, Int.reduceBEq, base_Rf, hlen] <;> with_reducible rfl)) | (with_reducible first | refine Tl.brT ?_ | refine Tl.brF ?_ | refine Tl.gd_on ?_ | refine Tl.gd3_on ?_) | ((with_reducible first | apply Tl.brC | apply Tl.gdC | apply Tl.gd3C); focus (simp (disch := omega) only [coreA, Int.reduceBEq, base_Rf, hlen] <;> with_reducible rfl)))
    exact hk [] rfl _ rv _ _ (by simpa using S)
  | succ f ih =>
    intro n j h rv ov z1 z2 z3 rest done hf hj hd hl hb S R hk hr
    obtain ⟨j, rfl⟩ : ∃ q, j = q + 1 := ⟨j - 1, by omega⟩
    have hlen : ∀ h', pLen Try.prog #[25] ov h' = some (.int .i64 done.length) := fun h' => Sl1.len (S.sl1 (f := i6v) 0 rfl) u25
    simp only [F48_llrr]
    unfold runsG at hk hr
    by_cases q0 : n = 0
    · simp only [if_pos q0] at hk hr
      repeat (first | (with_reducible apply Tl.val; focus (simp (disch := omega) only [coreA, Int.reduceBEq, base_Rf, hlen] <;> with_reducible rfl)) | (with_reducible first | refine Tl.brT ?_ | refine Tl.brF ?_ | refine Tl.gd_on ?_ | refine Tl.gd3_on ?_) | ((with_reducible first | apply Tl.brC | apply Tl.gdC | apply Tl.gd3C); focus (simp (disch := omega) only [coreA, Int.reduceBEq, base_Rf, hlen] <;> with_reducible rfl)))
      exact hk [] rfl _ rv _ _ (by simpa using S)
    · simp only [if_neg q0] at hk hr
      repeat (first | (with_reducible apply Tl.val; focus (simp (disch := omega) only [coreA, Int.reduceBEq, base_Rf, hlen] <;> with_reducible rfl)) | (with_reducible first | refine Tl.brT ?_ | refine Tl.brF ?_ | refine Tl.gd_on ?_ | refine Tl.gd3_on ?_) | ((with_reducible first | apply Tl.brC | apply Tl.gdC | apply Tl.gd3C); focus (simp (disch := omega) only [coreA, Int.reduceBEq, base_Rf, hlen] <;> with_reducible rfl)))
      refine Tl.bind (f47c (k := k + 5979) S rfl R (by omega) hb) ?_
      rintro ⟨r, h1⟩ hr1
      rcases hr1 with ⟨kk, r1, rv1, hdec, er, S1, R1⟩ | ⟨hdec, e, he, er⟩
      · simp only at er S1
        subst er
        have S1 : Stt Try.prog n0 h0 h1 (Qb br rv1 :: L) ((ov, 1, i6rows done) :: O) := S1
        have R1 : RV (Qb br rv1 :: L) 0 rv1 r1 := R1
        obtain ⟨dl1, dl2⟩ := dec_len rest hdec
        have hb1 : ∀ x ∈ r1, x < 256 := fun x hx => hb x (dl2 x hx)
        simp only [hdec] at hk hr
        by_cases q1 : r1.length < 8
        · rw [if_pos (.inl q1)] at hr
          have T := f46n (k := k + 5976) S1 rfl R1 (n := 8) (by omega) (by omega) q1
          rw [e8] at T
          repeat (first | (with_reducible apply Tl.val; focus (simp (disch := omega) only [coreA, Int.reduceBEq, base_Rf, T] <;> with_reducible rfl)) | (with_reducible first | refine Tl.brT ?_ | refine Tl.brF ?_ | refine Tl.gd_on ?_ | refine Tl.gd3_on ?_) | ((with_reducible first | apply Tl.brC | apply Tl.gdC | apply Tl.gd3C); focus (simp (disch := omega) only [coreA, Int.reduceBEq, base_Rf, T] <;> with_reducible rfl)))
          exact hr rfl _ S1.dropO.drop
        · have T := f46c (k := k + 5976) S1 rfl R1 (n := 8) (by omega) (by omega) (by omega) (by omega) hb1
          rw [e8] at T
          repeat (first | (with_reducible apply Tl.val; focus (simp (disch := omega) only [coreA, Int.reduceBEq, base_Rf] <;> with_reducible rfl)) | (with_reducible first | refine Tl.brT ?_ | refine Tl.brF ?_ | refine Tl.gd_on ?_ | refine Tl.gd3_on ?_) | ((with_reducible first | apply Tl.brC | apply Tl.gdC | apply Tl.gd3C); focus (simp (disch := omega) only [coreA, Int.reduceBEq, base_Rf] <;> with_reducible rfl)))
          refine Tl.bind T ?_
          rintro ⟨r, h2⟩ ⟨rv2, er, S2, R2⟩
          simp only at er S2
          subst er
          have S2 : Stt Try.prog n0 h0 h2 (Qb br rv2 :: L) ((ov, 1, i6rows done) :: O) := S2
          have R2 : RV (Qb br rv2 :: L) 0 rv2 (r1.drop 8) := R2
          by_cases q2 : kk < 1
          · rw [if_pos (.inr (.inl q2))] at hr
            repeat (first | (with_reducible apply Tl.val; focus (simp (disch := omega) only [coreA, Int.reduceBEq, base_Rf, hlen] <;> with_reducible rfl)) | (with_reducible first | refine Tl.brT ?_ | refine Tl.brF ?_ | refine Tl.gd_on ?_ | refine Tl.gd3_on ?_) | ((with_reducible first | apply Tl.brC | apply Tl.gdC | apply Tl.gd3C); focus (simp (disch := omega) only [coreA, Int.reduceBEq, base_Rf, hlen] <;> with_reducible rfl)))
            exact hr rfl _ S2.dropO.drop
          · by_cases q3 : kk > n
            · rw [if_pos (.inr (.inr q3))] at hr
              repeat (first | (with_reducible apply Tl.val; focus (simp (disch := omega) only [coreA, Int.reduceBEq, base_Rf, hlen] <;> with_reducible rfl)) | (with_reducible first | refine Tl.brT ?_ | refine Tl.brF ?_ | refine Tl.gd_on ?_ | refine Tl.gd3_on ?_) | ((with_reducible first | apply Tl.brC | apply Tl.gdC | apply Tl.gd3C); focus (simp (disch := omega) only [coreA, Int.reduceBEq, base_Rf, hlen] <;> with_reducible rfl)))
              exact hr rfl _ S2.dropO.drop
            · have qq : ¬ (r1.length < 8 ∨ kk < 1 ∨ kk > n) := by omega
              simp only [if_neg qq] at hk hr
              repeat (first | (with_reducible apply Tl.val; focus (simp (disch := omega) only [coreA, Int.reduceBEq, base_Rf, hlen] <;> with_reducible rfl)) | (with_reducible first | refine Tl.brT ?_ | refine Tl.brF ?_ | refine Tl.gd_on ?_ | refine Tl.gd3_on ?_) | ((with_reducible first | apply Tl.brC | apply Tl.gdC | apply Tl.gd3C); focus (simp (disch := omega) only [coreA, Int.reduceBEq, base_Rf, hlen] <;> with_reducible rfl)))
              refine f48_in (ofB8 hb1) kk (by omega) (by omega) (by omega) S2 fun h3 ov3 y7 y' S3 => ?_
              refine ih (n := n - kk) (done := done ++ List.replicate kk (toI (ofB (r1.take 8)))) (by omega) (by omega) (by simp; omega) (by simp; omega) (fun x hx => hb1 x (List.mem_of_mem_drop hx)) S3 R2 (fun l hl' h' rv3 ov3 y S6 => ?_) (fun hn => hr (by rw [hn]; rfl))
              exact hk _ (by rw [hl']; rfl) h' rv3 ov3 y (by simpa using S6)
      · cases er
        simp only [hdec] at hr
        by_cases q1 : rest.length < 8
        · have T := f46n (k := k + 5976) S rfl R (n := 8) (by omega) (by omega) q1
          rw [e8] at T
          repeat (first | (with_reducible apply Tl.val; focus (simp (disch := omega) only [coreA, Int.reduceBEq, base_Rf, T] <;> with_reducible rfl)) | (with_reducible first | refine Tl.brT ?_ | refine Tl.brF ?_ | refine Tl.gd_on ?_ | refine Tl.gd3_on ?_) | ((with_reducible first | apply Tl.brC | apply Tl.gdC | apply Tl.gd3C); focus (simp (disch := omega) only [coreA, Int.reduceBEq, base_Rf, T] <;> with_reducible rfl)))
          exact hr trivial _ S.dropO.drop
        · have T := f46c (k := k + 5976) S rfl R (n := 8) (by omega) (by omega) (by omega) (by omega) hb
          rw [e8] at T
          repeat (first | (with_reducible apply Tl.val; focus (simp (disch := omega) only [coreA, Int.reduceBEq, base_Rf] <;> with_reducible rfl)) | (with_reducible first | refine Tl.brT ?_ | refine Tl.brF ?_ | refine Tl.gd_on ?_ | refine Tl.gd3_on ?_) | ((with_reducible first | apply Tl.brC | apply Tl.gdC | apply Tl.gd3C); focus (simp (disch := omega) only [coreA, Int.reduceBEq, base_Rf] <;> with_reducible rfl)))
          refine Tl.bind T ?_
          rintro ⟨r, h2⟩ ⟨rv2, er, S2, R2⟩
          simp only at er S2
          subst er
          have S2 : Stt Try.prog n0 h0 h2 (Qb br rv2 :: L) ((ov, 1, i6rows done) :: O) := S2
          repeat (first | (with_reducible apply Tl.val; focus (simp (disch := omega) only [coreA, Int.reduceBEq, base_Rf] <;> with_reducible rfl)) | (with_reducible first | refine Tl.brT ?_ | refine Tl.brF ?_ | refine Tl.gd_on ?_ | refine Tl.gd3_on ?_) | ((with_reducible first | apply Tl.brC | apply Tl.gdC | apply Tl.gd3C); focus (simp (disch := omega) only [coreA, Int.reduceBEq, base_Rf] <;> with_reducible rfl)))
          exact hr trivial _ S2.dropO.drop
theorem f48c {k n : Nat} (S : Stt Try.prog n0 h0 h (Qb br rv :: L) O) (R : RV (Qb br rv :: L) 0 rv rest) (hn : n ≤ 4096) (hl : rest.length ≤ 5000) (hb : ∀ x ∈ rest, x < 256) :
    Tl (eInv env (k + 6000) (.func 48) #[] #[ptr br, .int .i64 n] h) fun r =>
      (∃ l rv o, runsG n n rest = some l ∧ r.1 = .tuple #[o, .bool true] ∧ Stt Try.prog n0 h0 r.2 (Qb br rv :: L) ((o, 1, i6rows l) :: O)) ∨ (runsG n n rest = none ∧ r.1 = .tuple #[.slice none 0 0, .bool false] ∧ Stt Try.prog n0 h0 r.2 L O) := by
  rw [F48_call]
  unfold F48
  refine f48_loop (k := k) (m := n) hn n (done := []) (Nat.le_refl _) (by omega) (by simp) hl hb (S.nil 1) R (fun l hl' h' rv' ov' y S' => ?_) (fun hn' h' S' => ?_)
  · exact ⟨_, rfl, .inl ⟨l, rv', ov', hl', rfl, by simpa using S'⟩⟩
  · exact ⟨_, rfl, .inr ⟨hn', rfl, S'⟩⟩
theorem f22_plain {β : Type} {k : Nat} {Q : β → Prop} {x0 : Value} {m : Nat} (hm : m ≤ 100000)
    {ke0 : Value → Value → Value → Value → Value → Value → AH → Option β} {kr : Value → Value → AH → Option β} (n : Nat) :
    ∀ {i j : Nat} {h : AH} {rv ov : Value} {rest : List Nat} {done : List Int}, i + n = m → n < j → done.length = i → rest.length ≤ 2 ^ 30 → (∀ x ∈ rest, x < 256) →
      Stt Try.prog n0 h0 h (Qb br rv :: L) ((ov, 1, i6rows done) :: O) → RV (Qb br rv :: L) 0 rv rest →
      (∀ l, plainG n rest = some l → ∀ h' rv' ov' y y', Stt Try.prog n0 h0 h' (Qb br rv' :: L) ((ov', 1, i6rows (done ++ l)) :: O) → Tl (ke0 x0 (ptr br) (.int .i64 m) ov' y y' h') Q) →
      (plainG n rest = none → ∀ h', Stt Try.prog n0 h0 h' L O → Tl (kr (.slice none 0 0) (.int .i64 4) h') Q) →
      Tl (F22_lrllrlrlrrrrrrrr (eInv env (k + 23)) (k + 23) j x0 (ptr br) (.int .i64 m) ov (.int .i64 i) h ke0 kr) Q := by
  induction n with
  | zero =>
    intro i j h rv ov rest done hi hj hd hl hb S R hk hr
    obtain ⟨j, rfl⟩ : ∃ q, j = q + 1 := ⟨j - 1, by omega⟩
    simp only [F22_lrllrlrlrrrrrrrr]
    repeat (first | (with_reducible apply Tl.val; focus (simp (disch := omega) only [coreA, Int.reduceBEq, base_Rf] <;> with_reducible rfl)) | (with_reducible first | refine Tl.brT ?_ | refine Tl.brF ?_ | refine Tl.gd_on ?_ | refine Tl.gd3_on ?_) | ((with_reducible first | apply Tl.brC | apply Tl.gdC | apply Tl.gd3C); focus (simp (disch := omega) only [coreA, Int.reduceBEq, base_Rf] <;> with_reducible rfl)))
    exact hk [] rfl _ rv _ _ _ (by simpa using S)
  | succ n ih =>
    intro i j h rv ov rest done hi hj hd hl hb S R hk hr
    obtain ⟨j, rfl⟩ : ∃ q, j = q + 1 := ⟨j - 1, by omega⟩
    have e : (i : Int) + 1 = ((i + 1 : Nat) : Int) := by omega
    have e8 : ((8 : Nat) : Int) = 8 := rfl
    simp only [F22_lrllrlrlrrrrrrrr]
    unfold plainG at hk hr
    by_cases q : rest.length < 8
    · rw [if_pos q] at hr
      have T := f46n (k := k) S rfl R (n := 8) (by omega) (by omega) q
      rw [e8] at T
      repeat (first | (with_reducible apply Tl.val; focus (simp (disch := omega) only [coreA, Int.reduceBEq, base_Rf, T] <;> with_reducible rfl)) | (with_reducible first | refine Tl.brT ?_ | refine Tl.brF ?_ | refine Tl.gd_on ?_ | refine Tl.gd3_on ?_) | ((with_reducible first | apply Tl.brC | apply Tl.gdC | apply Tl.gd3C); focus (simp (disch := omega) only [coreA, Int.reduceBEq, base_Rf, T] <;> with_reducible rfl)))
      exact hr rfl _ S.dropO.drop
    · simp only [if_neg q] at hk hr
      have T := f46c (k := k) S rfl R (n := 8) (by omega) (by omega) (by omega) hl hb
      rw [e8] at T
      have o8 := wrapI (ofB8 hb)
      repeat (first | (with_reducible apply Tl.val; focus (simp (disch := omega) only [coreA, Int.reduceBEq, base_Rf] <;> with_reducible rfl)) | (with_reducible first | refine Tl.brT ?_ | refine Tl.brF ?_ | refine Tl.gd_on ?_ | refine Tl.gd3_on ?_) | ((with_reducible first | apply Tl.brC | apply Tl.gdC | apply Tl.gd3C); focus (simp (disch := omega) only [coreA, Int.reduceBEq, base_Rf] <;> with_reducible rfl)))
      refine Tl.bind T ?_
      rintro ⟨r, h1⟩ ⟨rv', er, S1, R1⟩
      simp only at er S1
      subst er
      have S1 : Stt Try.prog n0 h0 h1 (Qb br rv' :: L) ((ov, 1, i6rows done) :: O) := S1
      have R1 : RV (Qb br rv' :: L) 0 rv' (rest.drop 8) := R1
      repeat (first | (with_reducible apply Tl.val; focus (simp (disch := omega) only [coreA, Int.reduceBEq, base_Rf, o8] <;> with_reducible rfl)) | (with_reducible first | refine Tl.brT ?_ | refine Tl.brF ?_ | refine Tl.gd_on ?_ | refine Tl.gd3_on ?_) | ((with_reducible first | apply Tl.brC | apply Tl.gdC | apply Tl.gd3C); focus (simp (disch := omega) only [coreA, Int.reduceBEq, base_Rf, o8] <;> with_reducible rfl)))
      refine Tl.push S1 0 rfl app25 (bs25 _ _) rfl rfl (by rw [i6rows_len]; omega) fun ov' h2 S2 => ?_
      repeat (first | (with_reducible apply Tl.val; focus (simp (disch := omega) only [coreA, Int.reduceBEq, base_Rf] <;> with_reducible rfl)) | (with_reducible first | refine Tl.brT ?_ | refine Tl.brF ?_ | refine Tl.gd_on ?_ | refine Tl.gd3_on ?_) | ((with_reducible first | apply Tl.brC | apply Tl.gdC | apply Tl.gd3C); focus (simp (disch := omega) only [coreA, Int.reduceBEq, base_Rf] <;> with_reducible rfl)))
      rw [e]
      refine ih (done := done ++ [toI (ofB (rest.take 8))]) (by omega) (by omega) (by simp [hd]) (by simp; omega) (fun x hx => hb x (List.mem_of_mem_drop hx)) (by simpa [i6rows, i6v] using S2) R1 (fun l hl' h' rv2 ov2 y y' S3 => ?_) (fun hn => hr (by rw [hn]; rfl))
      exact hk _ (by rw [hl']; rfl) h' rv2 ov2 y y' (by simpa using S3)
theorem f22_pack {β : Type} {k : Nat} {Q : β → Prop} {x0 gv : Value} {g : List Nat} {least m : Nat} (hg : g.length ≤ 65536) (hgm : g.length = m) (hgl : ∀ x ∈ g, x < 18446744073709551616) (hle : least < 18446744073709551616)
    {ke0 : Value → Value → Value → Value → Value → Value → Value → AH → Option β} (n : Nat) :
    ∀ {i j : Nat} {h : AH} {ov : Value} {done : List Int}, i + n = g.length → n < j → done.length = i →
      Stt Try.prog n0 h0 h L ((ov, 1, i6rows done) :: (gv, 1, u64rows g) :: O) →
      (∀ h' ov' y y', Stt Try.prog n0 h0 h' L ((ov', 1, i6rows (done ++ (g.drop i).map fun v => toI ((least + v) % 18446744073709551616))) :: (gv, 1, u64rows g) :: O) → Tl (ke0 x0 (.int .i64 m) ov' (.int .u64 least) gv y y' h') Q) →
      Tl (F22_lrlrrrrrlrrrrrlrlrrrrrrrr (eInv env k) k j x0 (.int .i64 m) ov (.int .u64 least) gv (.int .i64 i) h ke0) Q := by
  induction n with
  | zero =>
    intro i j h ov done hi hj hd S hk
    obtain ⟨j, rfl⟩ : ∃ q, j = q + 1 := ⟨j - 1, by omega⟩
    simp only [F22_lrlrrrrrlrrrrrlrlrrrrrrrr]
    repeat (first | (with_reducible apply Tl.val; focus (simp (disch := omega) only [coreA, Int.reduceBEq, base_Rf] <;> with_reducible rfl)) | (with_reducible first | refine Tl.brT ?_ | refine Tl.brF ?_ | refine Tl.gd_on ?_ | refine Tl.gd3_on ?_) | ((with_reducible first | apply Tl.brC | apply Tl.gdC | apply Tl.gd3C); focus (simp (disch := omega) only [coreA, Int.reduceBEq, base_Rf] <;> with_reducible rfl)))
    refine hk _ _ _ _ ?_
    rw [List.drop_eq_nil_of_le (by omega)]
    simpa using S
  | succ n ih =>
    intro i j h ov done hi hj hd S hk
    obtain ⟨j, rfl⟩ : ∃ q, j = q + 1 := ⟨j - 1, by omega⟩
    obtain ⟨x, hx⟩ : ∃ x, g[i]? = some x := ⟨_, List.getElem?_eq_getElem (by omega)⟩
    obtain ⟨b, o, hp, hc1⟩ := Sl1.at_ (S.sl1 (f := u64v) 1 rfl) (t := 50) (k := .i64) hx u50 sz51
    have hc1 := hc1 h (Grow.refl _)
    have e : (i : Int) + 1 = ((i + 1 : Nat) : Int) := by omega
    have hx64 := hgl x (List.mem_of_getElem? hx)
    have ew : IntKind.u64.wrap ((least : Int) + (x : Int)) = (((least + x) % 18446744073709551616 : Nat) : Int) := by rw [wrap_u64]; omega
    have o8 := wrapI (x := (least + x) % 18446744073709551616) (Nat.mod_lt _ (by decide))
    simp only [F22_lrlrrrrrlrrrrrlrlrrrrrrrr]
    repeat (first | (with_reducible apply Tl.val; focus (simp (disch := omega) only [coreA, Int.reduceBEq, base_Rf, hp, hc1, u64v, ew, o8] <;> with_reducible rfl)) | (with_reducible first | refine Tl.brT ?_ | refine Tl.brF ?_ | refine Tl.gd_on ?_ | refine Tl.gd3_on ?_) | ((with_reducible first | apply Tl.brC | apply Tl.gdC | apply Tl.gd3C); focus (simp (disch := omega) only [coreA, Int.reduceBEq, base_Rf, hp, hc1, u64v, ew, o8] <;> with_reducible rfl)))
    refine Tl.push S 0 rfl app25 (bs25 _ _) rfl rfl (by rw [i6rows_len]; omega) fun ov' h2 S2 => ?_
    repeat (first | (with_reducible apply Tl.val; focus (simp (disch := omega) only [coreA, Int.reduceBEq, base_Rf] <;> with_reducible rfl)) | (with_reducible first | refine Tl.brT ?_ | refine Tl.brF ?_ | refine Tl.gd_on ?_ | refine Tl.gd3_on ?_) | ((with_reducible first | apply Tl.brC | apply Tl.gdC | apply Tl.gd3C); focus (simp (disch := omega) only [coreA, Int.reduceBEq, base_Rf] <;> with_reducible rfl)))
    rw [e]
    refine ih (done := done ++ [toI ((least + x) % 18446744073709551616)]) (by omega) (by omega) (by simp [hd]) (by simpa [i6rows, i6v] using S2) fun h3 ov3 y y' S3 => hk h3 ov3 y y' ?_
    rw [dropc hx]
    simpa using S3
theorem f22_mid {β : Type} {k : Nat} {Q : β → Prop} {x0 : Value} {kind n : Nat} (S : Stt Try.prog h0.n h0 h (Qb br rv :: L) []) (R : RV (Qb br rv :: L) 0 rv rest) (hn : n ≤ 4096) (hl : rest.length ≤ 500) (hb : ∀ x ∈ rest, x < 256)
    {kn : Value → Value → Value → Value → Value → Value → AH → Option β} {kr : Value → Value → AH → Option β}
    (hkn : ∀ l ov av h' L' O' (i j : Nat) y y' y'', Stt Try.prog h0.n h0 h' L' O' → O'[i]? = some (ov, 1, i6rows l) → O'[j]? = some (av, 1, u8rows (formB kind l)) → (kind = 1 ∨ kind = 2 ∨ kind = 3) → kindG kind n rest = some l → Tl (kn x0 y y' ov av y'' h') Q)
    (hkr : (kind = 1 ∨ kind = 2 ∨ kind = 3) → kindG kind n rest = none → ∀ h', Grow h0 h' → Tl (kr (.slice none 0 0) (.int .i64 4) h') Q)
    (hko : ¬ (kind = 1 ∨ kind = 2 ∨ kind = 3) → ∀ y y' y'' h', Grow h0 h' → Tl (kn x0 y y' (.slice none 0 0) (.slice none 0 0) y'' h') Q) :
    Tl (F22_rlrrrrrrrr (eInv env (k + 12000)) (k + 12000) x0 (ptr br) (.int .i64 n) (.slice none 0 0) (.slice none 0 0) (.int .u64 (kind : Int)) h kn kr) Q := by
  unfold F22_rlrrrrrrrr
  have e8 : ((8 : Nat) : Int) = 8 := rfl
  have e1 : ((1 : Nat) : Int) = 1 := rfl
  by_cases k1 : kind = 1
  · subst k1
    have q : (1 = 1 ∨ 1 = 2 ∨ 1 = 3) := .inl rfl
    have hkn := fun l ov av h' L' O' i j y y' y'' S o a => hkn l ov av h' L' O' i j y y' y'' S o a q
    have hkr := hkr q
    unfold kindG formB at hkn
    unfold kindG at hkr
    simp only [if_true] at hkn hkr
    repeat (first | (with_reducible apply Tl.val; focus (simp (disch := omega) only [coreA, Int.reduceBEq, base_Rf] <;> with_reducible rfl)) | (with_reducible first | refine Tl.brT ?_ | refine Tl.brF ?_ | refine Tl.gd_on ?_ | refine Tl.gd3_on ?_) | ((with_reducible first | apply Tl.brC | apply Tl.gdC | apply Tl.gd3C); focus (simp (disch := omega) only [coreA, Int.reduceBEq, base_Rf] <;> with_reducible rfl)))
    refine f22_plain (k := k + 11977) (m := n) (by omega) n (i := 0) (done := []) (by omega) (by omega) rfl (by omega) hb (S.nil 1) R (fun l hl' h' rv' ov' y y' S' => ?_) (fun hn' h' S' => ?_)
    · rw [List.nil_append] at S'
      have hln := plainG_len _ hl'
      refine Tl.bind (f18c (k := k + 11970) (S'.sl1 (f := i6v) 0 rfl) (by omega) (by omega)) ?_
      rintro ⟨r, h2⟩ ⟨av, er, g2, X⟩
      simp only at er g2 X
      subst er
      have S2 := S'.gain g2 X
      repeat (first | (with_reducible apply Tl.val; focus (simp (disch := omega) only [coreA, Int.reduceBEq, base_Rf] <;> with_reducible rfl)) | (with_reducible first | refine Tl.brT ?_ | refine Tl.brF ?_ | refine Tl.gd_on ?_ | refine Tl.gd3_on ?_) | ((with_reducible first | apply Tl.brC | apply Tl.gdC | apply Tl.gd3C); focus (simp (disch := omega) only [coreA, Int.reduceBEq, base_Rf] <;> with_reducible rfl)))
      exact hkn l ov' av h2 _ _ 1 0 _ _ _ S2 rfl rfl hl'
    · exact hkr hn' _ S'.grow
  · by_cases k2 : kind = 2
    · subst k2
      have q : (2 = 1 ∨ 2 = 2 ∨ 2 = 3) := .inr (.inl rfl)
      have hkn := fun l ov av h' L' O' i j y y' y'' S o a => hkn l ov av h' L' O' i j y y' y'' S o a q
      have hkr := hkr q
      unfold kindG formB at hkn
      unfold kindG at hkr
      simp only [if_true, if_neg (show ¬ (2 : Nat) = 1 by decide)] at hkn hkr
      repeat (first | (with_reducible apply Tl.val; focus (simp (disch := omega) only [coreA, Int.reduceBEq, base_Rf] <;> with_reducible rfl)) | (with_reducible first | refine Tl.brT ?_ | refine Tl.brF ?_ | refine Tl.gd_on ?_ | refine Tl.gd3_on ?_) | ((with_reducible first | apply Tl.brC | apply Tl.gdC | apply Tl.gd3C); focus (simp (disch := omega) only [coreA, Int.reduceBEq, base_Rf] <;> with_reducible rfl)))
      refine Tl.bind (f48c (k := k + 6000) S R hn (by omega) hb) ?_
      rintro ⟨r, h1⟩ (⟨l, rv1, ov, hg, er, S1⟩ | ⟨hg, er, S1⟩)
      · simp only at er S1
        subst er
        have hln := runsG_len _ _ hg
        repeat (first | (with_reducible apply Tl.val; focus (simp (disch := omega) only [coreA, Int.reduceBEq, base_Rf] <;> with_reducible rfl)) | (with_reducible first | refine Tl.brT ?_ | refine Tl.brF ?_ | refine Tl.gd_on ?_ | refine Tl.gd3_on ?_) | ((with_reducible first | apply Tl.brC | apply Tl.gdC | apply Tl.gd3C); focus (simp (disch := omega) only [coreA, Int.reduceBEq, base_Rf] <;> with_reducible rfl)))
        refine Tl.bind (f19c (k := k + 11970) (S1.sl1 (f := i6v) 0 rfl) (by omega) (by omega)) ?_
        rintro ⟨r, h2⟩ ⟨av, er, g2, X⟩
        simp only at er g2 X
        subst er
        have S2 := S1.gain g2 X
        repeat (first | (with_reducible apply Tl.val; focus (simp (disch := omega) only [coreA, Int.reduceBEq, base_Rf] <;> with_reducible rfl)) | (with_reducible first | refine Tl.brT ?_ | refine Tl.brF ?_ | refine Tl.gd_on ?_ | refine Tl.gd3_on ?_) | ((with_reducible first | apply Tl.brC | apply Tl.gdC | apply Tl.gd3C); focus (simp (disch := omega) only [coreA, Int.reduceBEq, base_Rf] <;> with_reducible rfl)))
        exact hkn l ov av h2 _ _ 1 0 _ _ _ S2 rfl rfl hg
      · simp only at er S1
        subst er
        repeat (first | (with_reducible apply Tl.val; focus (simp (disch := omega) only [coreA, Int.reduceBEq, base_Rf] <;> with_reducible rfl)) | (with_reducible first | refine Tl.brT ?_ | refine Tl.brF ?_ | refine Tl.gd_on ?_ | refine Tl.gd3_on ?_) | ((with_reducible first | apply Tl.brC | apply Tl.gdC | apply Tl.gd3C); focus (simp (disch := omega) only [coreA, Int.reduceBEq, base_Rf] <;> with_reducible rfl)))
        exact hkr hg _ S1.grow
    · by_cases k3 : kind = 3
      · subst k3
        have q : (3 = 1 ∨ 3 = 2 ∨ 3 = 3) := .inr (.inr rfl)
        have hkn := fun l ov av h' L' O' i j y y' y'' S o a => hkn l ov av h' L' O' i j y y' y'' S o a q
        have hkr := hkr q
        unfold kindG formB at hkn
        unfold kindG at hkr
        simp only [if_neg (show ¬ (3 : Nat) = 1 by decide), if_neg (show ¬ (3 : Nat) = 2 by decide)] at hkn hkr
        unfold packG at hkn hkr
        repeat (first | (with_reducible apply Tl.val; focus (simp (disch := omega) only [coreA, Int.reduceBEq, base_Rf] <;> with_reducible rfl)) | (with_reducible first | refine Tl.brT ?_ | refine Tl.brF ?_ | refine Tl.gd_on ?_ | refine Tl.gd3_on ?_) | ((with_reducible first | apply Tl.brC | apply Tl.gdC | apply Tl.gd3C); focus (simp (disch := omega) only [coreA, Int.reduceBEq, base_Rf] <;> with_reducible rfl)))
        by_cases q1 : rest.length < 8
        · rw [if_pos (by omega)] at hkr
          have T := f46n (k := k + 11977) S rfl R (n := 8) (by omega) (by omega) q1
          rw [e8] at T
          repeat (first | (with_reducible apply Tl.val; focus (simp (disch := omega) only [coreA, Int.reduceBEq, base_Rf, T] <;> with_reducible rfl)) | (with_reducible first | refine Tl.brT ?_ | refine Tl.brF ?_ | refine Tl.gd_on ?_ | refine Tl.gd3_on ?_) | ((with_reducible first | apply Tl.brC | apply Tl.gdC | apply Tl.gd3C); focus (simp (disch := omega) only [coreA, Int.reduceBEq, base_Rf, T] <;> with_reducible rfl)))
          by_cases q2 : rest.length < 1
          · have T2 := f46n (k := k + 11977) S rfl R (n := 1) (by omega) (by omega) q2
            rw [e1] at T2
            repeat (first | (with_reducible apply Tl.val; focus (simp (disch := omega) only [coreA, Int.reduceBEq, base_Rf, T2] <;> with_reducible rfl)) | (with_reducible first | refine Tl.brT ?_ | refine Tl.brF ?_ | refine Tl.gd_on ?_ | refine Tl.gd3_on ?_) | ((with_reducible first | apply Tl.brC | apply Tl.gdC | apply Tl.gd3C); focus (simp (disch := omega) only [coreA, Int.reduceBEq, base_Rf, T2] <;> with_reducible rfl)))
            exact hkr rfl _ S.grow
          · have T2 := f46c (k := k + 11977) S rfl R (n := 1) (by omega) (by omega) (by omega) (by omega) hb
            rw [e1] at T2
            refine Tl.bind T2 ?_
            rintro ⟨r, h2⟩ ⟨rv2, er, S2, R2⟩
            simp only at er S2
            subst er
            repeat (first | (with_reducible apply Tl.val; focus (simp (disch := omega) only [coreA, Int.reduceBEq, base_Rf] <;> with_reducible rfl)) | (with_reducible first | refine Tl.brT ?_ | refine Tl.brF ?_ | refine Tl.gd_on ?_ | refine Tl.gd3_on ?_) | ((with_reducible first | apply Tl.brC | apply Tl.gdC | apply Tl.gd3C); focus (simp (disch := omega) only [coreA, Int.reduceBEq, base_Rf] <;> with_reducible rfl)))
            exact hkr rfl _ S2.grow
        · have T := f46c (k := k + 11977) S rfl R (n := 8) (by omega) (by omega) (by omega) (by omega) hb
          rw [e8] at T
          refine Tl.bind T ?_
          rintro ⟨r, h1⟩ ⟨rv1, er, S1, R1⟩
          simp only at er S1
          subst er
          have S1 : Stt Try.prog h0.n h0 h1 (Qb br rv1 :: L) [] := S1
          have R1 : RV (Qb br rv1 :: L) 0 rv1 (rest.drop 8) := R1
          have hb1 : ∀ x ∈ rest.drop 8, x < 256 := fun x hx => hb x (List.mem_of_mem_drop hx)
          repeat (first | (with_reducible apply Tl.val; focus (simp (disch := omega) only [coreA, Int.reduceBEq, base_Rf] <;> with_reducible rfl)) | (with_reducible first | refine Tl.brT ?_ | refine Tl.brF ?_ | refine Tl.gd_on ?_ | refine Tl.gd3_on ?_) | ((with_reducible first | apply Tl.brC | apply Tl.gdC | apply Tl.gd3C); focus (simp (disch := omega) only [coreA, Int.reduceBEq, base_Rf] <;> with_reducible rfl)))
          by_cases q2 : (rest.drop 8).length < 1
          · rw [if_pos (by simp at q2; omega)] at hkr
            have T2 := f46n (k := k + 11977) S1 rfl R1 (n := 1) (by omega) (by omega) q2
            rw [e1] at T2
            repeat (first | (with_reducible apply Tl.val; focus (simp (disch := omega) only [coreA, Int.reduceBEq, base_Rf, T2] <;> with_reducible rfl)) | (with_reducible first | refine Tl.brT ?_ | refine Tl.brF ?_ | refine Tl.gd_on ?_ | refine Tl.gd3_on ?_) | ((with_reducible first | apply Tl.brC | apply Tl.gdC | apply Tl.gd3C); focus (simp (disch := omega) only [coreA, Int.reduceBEq, base_Rf, T2] <;> with_reducible rfl)))
            exact hkr rfl _ S1.grow
          · have q9 : ¬ rest.length < 9 := by simp at q2; omega
            simp only [if_neg q9] at hkn hkr
            have T2 := f46c (k := k + 11977) S1 rfl R1 (n := 1) (by omega) (by omega) (by omega) (by simp; omega) hb1
            rw [e1] at T2
            refine Tl.bind T2 ?_
            rintro ⟨r, h2⟩ ⟨rv2, er, S2, R2⟩
            simp only at er S2
            subst er
            have S2 : Stt Try.prog h0.n h0 h2 (Qb br rv2 :: L) [] := S2
            have R2 : RV (Qb br rv2 :: L) 0 rv2 (rest.drop 9) := by
              have : (rest.drop 8).drop 1 = rest.drop 9 := by rw [List.drop_drop]
              rw [← this]; exact R2
            have hb2 : ∀ x ∈ rest.drop 9, x < 256 := fun x hx => hb x (List.mem_of_mem_drop hx)
            have c0 := S2.cell 0 (o := 0) (v := rv2) rfl rfl
            have hw : ofB ((rest.drop 8).take 1) < 256 := by
              have h1 := ofB_lt ((rest.drop 8).take 1) fun x hx => hb1 x (List.mem_of_mem_take hx)
              have : ((rest.drop 8).take 1).length = 1 := by simp; simp at q2; omega
              rw [this] at h1
              simpa using h1
            unfold ptr
            repeat (first | (with_reducible apply Tl.val; focus (simp (disch := omega) only [coreA, Int.reduceBEq, base_Rf, c0] <;> with_reducible rfl)) | (with_reducible first | refine Tl.brT ?_ | refine Tl.brF ?_ | refine Tl.gd_on ?_ | refine Tl.gd3_on ?_) | ((with_reducible first | apply Tl.brC | apply Tl.gdC | apply Tl.gd3C); focus (simp (disch := omega) only [coreA, Int.reduceBEq, base_Rf, c0] <;> with_reducible rfl)))
            refine Tl.bind (f49c (k := k + 11910) (R2.bytes S2) hb2 (by simp; omega) (n : Int) (ofB ((rest.drop 8).take 1) : Nat) (fun _ => by simp; omega) (by simp; omega)) ?_
            rintro ⟨r, h4⟩ ⟨gv, er, g4, X⟩
            simp only at er g4 X
            subst er
            by_cases q : Pk.checkE (rest.drop 9) (n : Int) (ofB ((rest.drop 8).take 1) : Nat) = 0
            · simp only [if_neg (fun h : Pk.checkE (rest.drop 9) (n : Int) (ofB ((rest.drop 8).take 1) : Nat) ≠ 0 => h q)] at hkn hkr
              have S4 := (S2.gain g4 X).nil 1
              have hgl : (Pk.getN (rest.drop 9) (n : Int) (ofB ((rest.drop 8).take 1) : Nat)).length = n := by
                unfold Pk.getN
                rw [if_pos q, digs_len]; simp
              rw [q]
              repeat (first | (with_reducible apply Tl.val; focus (simp (disch := omega) only [coreA, Int.reduceBEq, base_Rf] <;> with_reducible rfl)) | (with_reducible first | refine Tl.brT ?_ | refine Tl.brF ?_ | refine Tl.gd_on ?_ | refine Tl.gd3_on ?_) | ((with_reducible first | apply Tl.brC | apply Tl.gdC | apply Tl.gd3C); focus (simp (disch := omega) only [coreA, Int.reduceBEq, base_Rf] <;> with_reducible rfl)))
              refine f22_pack (by omega) hgl Pk.getN_lt (ofB8 hb) n (i := 0) (done := []) (by omega) (by omega) rfl S4 fun h5 ov y y' S5 => ?_
              rw [List.drop_zero, List.nil_append] at S5
              refine Tl.bind (f20c (k := k + 11500) (S5.sl1 (f := i6v) 0 rfl) (by rw [List.length_map]; omega) (by rw [List.length_map]; omega)) ?_
              rintro ⟨r, h6⟩ ⟨av, er, g6, X6⟩
              simp only at er g6 X6
              subst er
              have S6 := S5.gain g6 X6
              repeat (first | (with_reducible apply Tl.val; focus (simp (disch := omega) only [coreA, Int.reduceBEq, base_Rf] <;> with_reducible rfl)) | (with_reducible first | refine Tl.brT ?_ | refine Tl.brF ?_ | refine Tl.gd_on ?_ | refine Tl.gd3_on ?_) | ((with_reducible first | apply Tl.brC | apply Tl.gdC | apply Tl.gd3C); focus (simp (disch := omega) only [coreA, Int.reduceBEq, base_Rf] <;> with_reducible rfl)))
              exact hkn _ ov av h6 _ _ 1 0 _ _ _ S6 rfl rfl rfl
            · simp only [if_pos q] at hkr
              repeat (first | (with_reducible apply Tl.val; focus (simp (disch := omega) only [coreA, Int.reduceBEq, base_Rf] <;> with_reducible rfl)) | (with_reducible first | refine Tl.brT ?_ | refine Tl.brF ?_ | refine Tl.gd_on ?_ | refine Tl.gd3_on ?_) | ((with_reducible first | apply Tl.brC | apply Tl.gdC | apply Tl.gd3C); focus (simp (disch := omega) only [coreA, Int.reduceBEq, base_Rf] <;> with_reducible rfl)))
              exact hkr trivial _ (S2.grow.trans g4)
      · have hko := hko (by omega)
        repeat (first | (with_reducible apply Tl.val; focus (simp (disch := omega) only [coreA, Int.reduceBEq, base_Rf] <;> with_reducible rfl)) | (with_reducible first | refine Tl.brT ?_ | refine Tl.brF ?_ | refine Tl.gd_on ?_ | refine Tl.gd3_on ?_) | ((with_reducible first | apply Tl.brC | apply Tl.gdC | apply Tl.gd3C); focus (simp (disch := omega) only [coreA, Int.reduceBEq, base_Rf] <;> with_reducible rfl)))
        exact hko _ _ _ _ S.grow
theorem f22c {k : Nat} {h : AH} {v : Value} {b : List Nat} (B : Bytes h v b) (hb : ∀ x ∈ b, x < 256) (hl : b.length ≤ 500) :
    Tl (eInv env (k + 12001) (.func 22) #[] #[v] h) fun r => (∃ l o, getI b = some l ∧ l.length ≤ 4096 ∧ r.1 = .tuple #[o, .int .i64 0] ∧ Grow h r.2 ∧ OwnB Try.prog h.n r.2 o 1 (i6rows l)) ∨
      (getI b = none ∧ r.1 = .tuple #[.slice none 0 0, .int .i64 4] ∧ Grow h r.2) := by
  rw [F22_call]
  unfold F22
  refine Tl.bind (f45c (k := k + 11998) (Stt.init h) B (by omega)) ?_
  rintro ⟨x14, h1⟩ ⟨br, rv, L', e1, S1, R1, g1⟩
  simp only at e1 S1 g1
  subst e1
  rw [List.nil_append] at S1 R1
  have eo : ((1 : Nat) : Int) = 1 := rfl
  cases b with
  | nil =>
    have T := f46n (k := k + 11977) S1 rfl R1 (n := 1) (by omega) (by omega) (by simp)
    rw [eo] at T
    repeat (first | (with_reducible apply Tl.val; focus (simp (disch := omega) only [coreA, Int.reduceBEq, base_Rf, T] <;> with_reducible rfl)) | (with_reducible first | refine Tl.brT ?_ | refine Tl.brF ?_ | refine Tl.gd_on ?_ | refine Tl.gd3_on ?_) | ((with_reducible first | apply Tl.brC | apply Tl.gdC | apply Tl.gd3C); focus (simp (disch := omega) only [coreA, Int.reduceBEq, base_Rf, T] <;> with_reducible rfl)))
    refine Tl.bind (f47c (k := k + 11980) S1 rfl R1 (by omega) hb) ?_
    rintro ⟨r, h2⟩ (⟨n, r1, rv5, hd, er, S5, R5⟩ | ⟨hd, e, he, er⟩)
    · cases hd
    · cases er
      repeat (first | (with_reducible apply Tl.val; focus (simp (disch := omega) only [coreA, Int.reduceBEq, base_Rf] <;> with_reducible rfl)) | (with_reducible first | refine Tl.brT ?_ | refine Tl.brF ?_ | refine Tl.gd_on ?_ | refine Tl.gd3_on ?_) | ((with_reducible first | apply Tl.brC | apply Tl.gdC | apply Tl.gd3C); focus (simp (disch := omega) only [coreA, Int.reduceBEq, base_Rf] <;> with_reducible rfl)))
      exact ⟨_, rfl, .inr ⟨rfl, rfl, S1.grow⟩⟩
  | cons kind r0 =>
    have T := f46c (k := k + 11977) S1 rfl R1 (n := 1) (by omega) (by omega) (by simp) (by omega) hb
    rw [eo] at T
    refine Tl.bind T ?_
    rintro ⟨r, h2⟩ ⟨rv2, er, S2, R2⟩
    simp only at er S2
    subst er
    have S2 : Stt Try.prog h.n h h2 (Qb br rv2 :: L') [] := S2
    have R2 : RV (Qb br rv2 :: L') 0 rv2 r0 := R2
    have ef : ofB ((kind :: r0).take 1) = kind := by simp [ofB]
    rw [ef]
    have hk256 := hb kind (by simp)
    have hb0 : ∀ x ∈ r0, x < 256 := fun x hx => hb x (by simp [hx])
    have hl0 : r0.length < 500 := by rw [List.length_cons] at hl; omega
    repeat (first | (with_reducible apply Tl.val; focus (simp (disch := omega) only [coreA, Int.reduceBEq, base_Rf] <;> with_reducible rfl)) | (with_reducible first | refine Tl.brT ?_ | refine Tl.brF ?_ | refine Tl.gd_on ?_ | refine Tl.gd3_on ?_) | ((with_reducible first | apply Tl.brC | apply Tl.gdC | apply Tl.gd3C); focus (simp (disch := omega) only [coreA, Int.reduceBEq, base_Rf] <;> with_reducible rfl)))
    refine Tl.bind (f47c (k := k + 11980) S2 rfl R2 (by omega) hb0) ?_
    rintro ⟨r, h5⟩ hr
    unfold getI
    simp only
    rcases hr with ⟨n, r1, rv5, hd, er, S5, R5⟩ | ⟨hd, e, he, er⟩
    · simp only at er S5
      subst er
      have S5 : Stt Try.prog h.n h h5 (Qb br rv5 :: L') [] := S5
      have R5 : RV (Qb br rv5 :: L') 0 rv5 r1 := R5
      obtain ⟨dl1, dl2⟩ := dec_len r0 hd
      simp only [hd]
      by_cases qn : n > 4096
      · rw [if_pos qn]
        repeat (first | (with_reducible apply Tl.val; focus (simp (disch := omega) only [coreA, Int.reduceBEq, base_Rf] <;> with_reducible rfl)) | (with_reducible first | refine Tl.brT ?_ | refine Tl.brF ?_ | refine Tl.gd_on ?_ | refine Tl.gd3_on ?_) | ((with_reducible first | apply Tl.brC | apply Tl.gdC | apply Tl.gd3C); focus (simp (disch := omega) only [coreA, Int.reduceBEq, base_Rf] <;> with_reducible rfl)))
        exact ⟨_, rfl, .inr ⟨rfl, rfl, S5.grow⟩⟩
      · rw [if_neg qn]
        repeat (first | (with_reducible apply Tl.val; focus (simp (disch := omega) only [coreA, Int.reduceBEq, base_Rf] <;> with_reducible rfl)) | (with_reducible first | refine Tl.brT ?_ | refine Tl.brF ?_ | refine Tl.gd_on ?_ | refine Tl.gd3_on ?_) | ((with_reducible first | apply Tl.brC | apply Tl.gdC | apply Tl.gd3C); focus (simp (disch := omega) only [coreA, Int.reduceBEq, base_Rf] <;> with_reducible rfl)))
        refine f22_mid (k := k) S5 R5 (by omega) (by omega) (fun x hx => hb0 x (dl2 x hx)) (fun l ov av h6 L6 O6 i j y y' y'' S6 hi hj qk hg => ?_) (fun qk hg h6 g6 => ?_) (fun qk y y' y'' h6 g6 => ?_)
        · rw [if_pos qk, hg]
          simp only
          have hln := kindG_len hg
          have ca := convB (S6.sl1 (f := u8v) (l := formB kind l) j hj)
          have cb := convB (B.grow S6.grow)
          have eq : ∀ t x y, pBin Try.prog Go.BinOp.neq t x y (.string (strB (formB kind l))) (.string (strB (kind :: r0))) = some (.bool (!decide (formB kind l = kind :: r0))) := fun t x y => by
            rw [bin_neq_string]
            congr 3
            by_cases q : formB kind l = kind :: r0
            · simp [q]
            · have : ¬ strB (formB kind l) = strB (kind :: r0) := fun h => q (strB_inj (formB_256 kind l) hb h)
              simp [q, this]
          by_cases q : formB kind l = kind :: r0
          · rw [if_pos q]
            rw [decide_eq_true q] at eq
            repeat (first | (with_reducible apply Tl.val; focus (simp (disch := omega) only [coreA, Int.reduceBEq, base_Rf, ca, cb, eq] <;> with_reducible rfl)) | (with_reducible first | refine Tl.brT ?_ | refine Tl.brF ?_ | refine Tl.gd_on ?_ | refine Tl.gd3_on ?_) | ((with_reducible first | apply Tl.brC | apply Tl.gdC | apply Tl.gd3C); focus (simp (disch := omega) only [coreA, Int.reduceBEq, base_Rf, ca, cb, eq] <;> with_reducible rfl)))
            exact ⟨_, rfl, .inl ⟨l, ov, rfl, by omega, rfl, S6.grow, S6.ret i hi⟩⟩
          · rw [if_neg q]
            rw [decide_eq_false q] at eq
            repeat (first | (with_reducible apply Tl.val; focus (simp (disch := omega) only [coreA, Int.reduceBEq, base_Rf, ca, cb, eq] <;> with_reducible rfl)) | (with_reducible first | refine Tl.brT ?_ | refine Tl.brF ?_ | refine Tl.gd_on ?_ | refine Tl.gd3_on ?_) | ((with_reducible first | apply Tl.brC | apply Tl.gdC | apply Tl.gd3C); focus (simp (disch := omega) only [coreA, Int.reduceBEq, base_Rf, ca, cb, eq] <;> with_reducible rfl)))
            exact ⟨_, rfl, .inr ⟨rfl, rfl, S6.grow⟩⟩
        · rw [if_pos qk, hg]
          exact ⟨_, rfl, .inr ⟨rfl, rfl, g6⟩⟩
        · rw [if_neg qk]
          have ca : pConv Try.prog 26 9 (.slice none 0 0) h6 = some (.string (strB [])) := convB (.inl ⟨rfl, rfl⟩)
          have cb := convB (B.grow g6)
          have eq : ∀ t x y, pBin Try.prog Go.BinOp.neq t x y (.string (strB [])) (.string (strB (kind :: r0))) = some (.bool true) := fun t x y => by
            rw [bin_neq_string]
            have : ¬ strB [] = strB (kind :: r0) := fun h => by
              have := strB_inj (l := []) (fun x hx => by cases hx) hb h
              cases this
            simp [this]
          repeat (first | (with_reducible apply Tl.val; focus (simp (disch := omega) only [coreA, Int.reduceBEq, base_Rf, ca, cb, eq] <;> with_reducible rfl)) | (with_reducible first | refine Tl.brT ?_ | refine Tl.brF ?_ | refine Tl.gd_on ?_ | refine Tl.gd3_on ?_) | ((with_reducible first | apply Tl.brC | apply Tl.gdC | apply Tl.gd3C); focus (simp (disch := omega) only [coreA, Int.reduceBEq, base_Rf, ca, cb, eq] <;> with_reducible rfl)))
          exact ⟨_, rfl, .inr ⟨rfl, rfl, g6⟩⟩
    · cases er
      simp only [hd]
      repeat (first | (with_reducible apply Tl.val; focus (simp (disch := omega) only [coreA, Int.reduceBEq, base_Rf] <;> with_reducible rfl)) | (with_reducible first | refine Tl.brT ?_ | refine Tl.brF ?_ | refine Tl.gd_on ?_ | refine Tl.gd3_on ?_) | ((with_reducible first | apply Tl.brC | apply Tl.gdC | apply Tl.gd3C); focus (simp (disch := omega) only [coreA, Int.reduceBEq, base_Rf] <;> with_reducible rfl)))
      exact ⟨_, rfl, .inr ⟨trivial, rfl, S2.grow⟩⟩
end
end Go.Proofs.Ytcidbbkefpeahaa.Sh
