/- 'IntsOrder' comes to true: the walk. -/
import Derived.Test.YtcidbbkefpeahaaSzI1
set_option linter.unusedVariables false
set_option linter.unusedSimpArgs false
set_option maxRecDepth 100000
namespace Go.Proofs.Ytcidbbkefpeahaa.Sh
open Go Go.RowKit Go.Proofs.Ev
theorem base_I2 : type_of% (And.intro @ld2 (And.intro @ld3 (And.intro @ld4 (And.intro @ld5 (And.intro @ld25 (And.intro @ld26 (And.intro @ex2_0 (@ex2_1)))))))) := And.intro @ld2 (And.intro @ld3 (And.intro @ld4 (And.intro @ld5 (And.intro @ld25 (And.intro @ld26 (And.intro @ex2_0 (@ex2_1)))))))
theorem bsE25 (h : AH) : pBuildSlice Try.prog 25 0 #[] h = some (.slice (some ⟨h.n, 0, none⟩) 0 0, h.alloc (.cells [] 2 true)) := by kernel_rfl
theorem f12c {k : Nat} {n0 : Nat} {h0 h : AH} {L : List (Nat × AO)} {O : List OS} {v : Value} {l : List Int} (S : Stt Try.prog n0 h0 h L O) (B : Ints h v l) (hl : l.length ≤ 2 ^ 30) :
    Tl (eInv env (k + 1) (.func 12) #[] #[v] h) fun r => Stt Try.prog n0 h0 r.2 L ((r.1, 1, i6rows l) :: O) ∧ Grow h r.2 := by
  rw [F12_call]
  unfold F12
  repeat (first | (with_reducible apply Tl.val; focus (simp (disch := omega) only [coreA, Int.reduceBEq, base_I2, bsE25] <;> with_reducible rfl)) | with_reducible refine Tl.brT ?_ | with_reducible refine Tl.brF ?_ | with_reducible refine Tl.gd_on ?_ | with_reducible refine Tl.gd3_on ?_ | ((first | with_reducible apply Tl.brC | with_reducible apply Tl.gdC | with_reducible apply Tl.gd3C); focus (simp (disch := omega) only [coreA, Int.reduceBEq, base_I2, bsE25] <;> with_reducible rfl)))
  have X : OwnB Try.prog h.n (h.alloc (.cells [] 2 true)) (.slice (some ⟨h.n, 0, none⟩) 0 0) 1 [] :=
    .inr ⟨h.n, Nat.le_refl _, ⟨rfl, ⟨⟨[], 2, AH.get_alloc_new _ _, fun hq => absurd rfl hq⟩, fun r hr => by cases hr⟩, szOk_of (AH.get_alloc_new _ _) sz2⟩⟩
  have S1 := S.gain (Grow.alloc h _) X
  obtain ⟨v', h', e1, e2, e3, e4⟩ := S1.append 0 rfl app25 (Sl1.grow B (Grow.alloc h _)) (by simp; omega) (one_i6rows l)
  repeat (first | (with_reducible apply Tl.val; focus (simp (disch := omega) only [coreA, Int.reduceBEq, base_I2, e1] <;> with_reducible rfl)) | with_reducible refine Tl.brT ?_ | with_reducible refine Tl.brF ?_ | with_reducible refine Tl.gd_on ?_ | with_reducible refine Tl.gd3_on ?_ | ((first | with_reducible apply Tl.brC | with_reducible apply Tl.gdC | with_reducible apply Tl.gd3C); focus (simp (disch := omega) only [coreA, Int.reduceBEq, base_I2, e1] <;> with_reducible rfl)))
  exact ⟨_, rfl, e2, ⟨by simp at e3 ⊢; omega, fun j hj => (e4 j (by simp; omega) fun q => by simp only [blkOf, Option.some.injEq] at q; omega).trans (AH.get_alloc_old _ _ hj)⟩⟩
theorem f9c {k : Nat} (n : Int) (m : Nat) (h1 : 1 ≤ m) (h2 : m ≤ 100000) (h : AH) : ∃ w : Nat, w < m ∧ ∀ h, eInv env (k + 1) (.func 9) #[] #[.int .i64 n, .int .i64 m] h = some (.int .i64 w, h) := by
  have r1 := Int.tmod_lt_of_pos n (show (0 : Int) < m by omega)
  have r2 : -(m : Int) < n.tmod m := by
    have h1 := Int.tmod_lt_of_pos (-n) (show (0 : Int) < m by omega)
    rw [Int.neg_tmod] at h1
    omega
  have rm : ∀ t x y, pBin Try.prog Go.BinOp.rem t x y (.int .i64 n) (.int .i64 m) = some (.int .i64 (n.tmod m)) := fun t x y => bin_rem (by omega)
  refine ⟨if n.tmod m < 0 then (n.tmod m + m).toNat else (n.tmod m).toNat, by split <;> omega, fun h => ?_⟩
  have T : Tl (F9 (eInv env k) k (.int .i64 n) (.int .i64 m) h) fun r => r = (.int .i64 ((if n.tmod m < 0 then (n.tmod m + m).toNat else (n.tmod m).toNat : Nat) : Int), h) := by
    unfold F9
    by_cases q : n.tmod m < 0
    · rw [if_pos q]
      repeat (first | (with_reducible apply Tl.val; focus (simp (disch := omega) only [coreA, Int.reduceBEq, base_I2, rm] <;> with_reducible rfl)) | with_reducible refine Tl.brT ?_ | with_reducible refine Tl.brF ?_ | with_reducible refine Tl.gd_on ?_ | with_reducible refine Tl.gd3_on ?_ | ((first | with_reducible apply Tl.brC | with_reducible apply Tl.gdC | with_reducible apply Tl.gd3C); focus (simp (disch := omega) only [coreA, Int.reduceBEq, base_I2, rm] <;> with_reducible rfl)))
      unfold F9_rlrrr
      repeat (first | (with_reducible apply Tl.val; focus (simp (disch := omega) only [coreA, Int.reduceBEq, base_I2] <;> with_reducible rfl)) | with_reducible refine Tl.brT ?_ | with_reducible refine Tl.brF ?_ | with_reducible refine Tl.gd_on ?_ | with_reducible refine Tl.gd3_on ?_ | ((first | with_reducible apply Tl.brC | with_reducible apply Tl.gdC | with_reducible apply Tl.gd3C); focus (simp (disch := omega) only [coreA, Int.reduceBEq, base_I2] <;> with_reducible rfl)))
      exact ⟨_, rfl, by congr 2; omega⟩
    · rw [if_neg q]
      repeat (first | (with_reducible apply Tl.val; focus (simp (disch := omega) only [coreA, Int.reduceBEq, base_I2, rm] <;> with_reducible rfl)) | with_reducible refine Tl.brT ?_ | with_reducible refine Tl.brF ?_ | with_reducible refine Tl.gd_on ?_ | with_reducible refine Tl.gd3_on ?_ | ((first | with_reducible apply Tl.brC | with_reducible apply Tl.gdC | with_reducible apply Tl.gd3C); focus (simp (disch := omega) only [coreA, Int.reduceBEq, base_I2, rm] <;> with_reducible rfl)))
      unfold F9_rlrrr
      repeat (first | (with_reducible apply Tl.val; focus (simp (disch := omega) only [coreA, Int.reduceBEq, base_I2] <;> with_reducible rfl)) | with_reducible refine Tl.brT ?_ | with_reducible refine Tl.brF ?_ | with_reducible refine Tl.gd_on ?_ | with_reducible refine Tl.gd3_on ?_ | ((first | with_reducible apply Tl.brC | with_reducible apply Tl.gdC | with_reducible apply Tl.gd3C); focus (simp (disch := omega) only [coreA, Int.reduceBEq, base_I2] <;> with_reducible rfl)))
      exact ⟨_, rfl, by congr 2; omega⟩
  obtain ⟨r, h3, h4⟩ := T
  rw [F9_call, h3, h4]
theorem rli_small (l : List Int) : ∀ (b : Int) (n : Nat), n + l.length ≤ 1000000 → runsLen (rli b n l) ≤ 18 * (l.length + 1) := by
  induction l with
  | nil =>
    intro b n h
    have := pvarN_le10 (n := n) (by simp at h; omega)
    simp only [rli, runsLen, List.flatMap_cons, List.flatMap_nil, List.append_nil, runB, List.length_append, le_len, List.length_nil]
    omega
  | cons c l ih =>
    intro b n h
    simp only [List.length_cons] at h
    unfold rli
    split
    · have := ih b (n + 1) (by omega)
      simp only [List.length_cons]; omega
    · have h1 := ih c 1 (by omega)
      have h2 := pvarN_le10 (n := n) (by omega)
      have e : runsLen ((n, b) :: rli c 1 l) = (runB (n, b)).length + runsLen (rli c 1 l) := by simp [runsLen]
      rw [e]
      simp only [runB, List.length_append, le_len, List.length_cons]
      omega
theorem runs_small (l : List Int) (h : l.length ≤ 100000) : (runsB l).length ≤ 20 + 18 * (l.length + 1) := by
  rw [runs_len]
  have h10 := pvarN_le10 (n := l.length) (by omega)
  cases l with
  | nil => simp [runsI, runsLen] at *; omega
  | cons b l =>
    have := rli_small l b 1 (by simp at h; omega)
    simp only [runsI, List.length_cons] at *
    omega
theorem i6set (l : List Int) (i : Nat) (x : Int) : (i6rows l).set i [.int .i64 x] = i6rows (l.set i x) := by simp [i6rows, i6v, List.map_set]
theorem f4 {k : Nat} {h : AH} {v : Value} {l : List Int} (A : Ints h v l) (hok : ∀ x ∈ l, i64ok x) (a b w : Int) (hw : i64ok w) :
    Tl (F4 (eInv env (k + 20000)) (k + 20000) v (.int .i64 a) (.int .i64 b) (.int .i64 w) h) fun r => r.1 = .bool true := by
  unfold F4
  have hv : ∀ h', pLen Try.prog #[25] v h' = some (.int .i64 l.length) := fun h' => Sl1.len A u25
  refine Tl.call' (Stt.init h : Stt Try.prog h.n h h [] []) (lives_call (k := k + 19400) (Stt.init h : Stt Try.prog h.n h h [] [])) fun h1 S1 g1 => ?_
  by_cases q1 : l.length ≤ 199
  · by_cases q0 : l.length = 0
    · repeat (first | (with_reducible apply Tl.val; focus (simp (disch := omega) only [coreA, Int.reduceBEq, base_I2, hv] <;> with_reducible rfl)) | with_reducible refine Tl.brT ?_ | with_reducible refine Tl.brF ?_ | with_reducible refine Tl.gd_on ?_ | with_reducible refine Tl.gd3_on ?_ | ((first | with_reducible apply Tl.brC | with_reducible apply Tl.gdC | with_reducible apply Tl.gd3C); focus (simp (disch := omega) only [coreA, Int.reduceBEq, base_I2, hv] <;> with_reducible rfl)))
      exact ⟨_, rfl, rfl⟩
    · have hne : l ≠ [] := fun q => q0 (by rw [q]; rfl)
      repeat (first | (with_reducible apply Tl.val; focus (simp (disch := omega) only [coreA, Int.reduceBEq, base_I2, hv] <;> with_reducible rfl)) | with_reducible refine Tl.brT ?_ | with_reducible refine Tl.brF ?_ | with_reducible refine Tl.gd_on ?_ | with_reducible refine Tl.gd3_on ?_ | ((first | with_reducible apply Tl.brC | with_reducible apply Tl.gdC | with_reducible apply Tl.gd3C); focus (simp (disch := omega) only [coreA, Int.reduceBEq, base_I2, hv] <;> with_reducible rfl)))
      refine Tl.bind (f12c (k := k + 19999) S1 (Sl1.grow A S1.grow) (by omega)) ?_
      rintro ⟨mv, h2⟩ ⟨S2, g2⟩
      simp only at S2 g2
      obtain ⟨ia, hia, ea⟩ := f9c (k := k + 19999) a l.length (by omega) (by omega) h2
      obtain ⟨ib, hib, eb⟩ := f9c (k := k + 19999) b l.length (by omega) (by omega) h2
      obtain ⟨x, hx⟩ : ∃ x, l[ia]? = some x := ⟨_, List.getElem?_eq_getElem hia⟩
      obtain ⟨y, hy⟩ : ∃ y, l[ib]? = some y := ⟨_, List.getElem?_eq_getElem hib⟩
      obtain ⟨ba, ema, hma⟩ := S2.idx (t := 25) 0 rfl (kd := .i64) (j := ia) (by rw [i6rows_len]; omega) u25 sz2
      obtain ⟨bb, emb, hmb⟩ := S2.idx (t := 25) 0 rfl (kd := .i64) (j := ib) (by rw [i6rows_len]; omega) u25 sz2
      obtain ⟨_, _, hpa, hca⟩ := Sl1.at_ (S2.sl1 (f := i6v) 0 rfl) (t := 25) (k := .i64) hx u25 sz2
      obtain ⟨_, _, hpb, hcb⟩ := Sl1.at_ (S2.sl1 (f := i6v) 0 rfl) (t := 25) (k := .i64) hy u25 sz2
      rw [hma] at hpa
      rw [hmb] at hpb
      cases hpa
      cases hpb
      have hca := hca h2 (Grow.refl _)
      have hcb := hcb h2 (Grow.refl _)
      repeat (first | (with_reducible apply Tl.val; focus (simp (disch := omega) only [coreA, Int.reduceBEq, base_I2, hv, ea, eb, hma, hmb, hca, hcb, i6v] <;> with_reducible rfl)) | with_reducible refine Tl.brT ?_ | with_reducible refine Tl.brF ?_ | with_reducible refine Tl.gd_on ?_ | with_reducible refine Tl.gd3_on ?_ | ((first | with_reducible apply Tl.brC | with_reducible apply Tl.gdC | with_reducible apply Tl.gd3C); focus (simp (disch := omega) only [coreA, Int.reduceBEq, base_I2, hv, ea, eb, hma, hmb, hca, hcb, i6v] <;> with_reducible rfl)))
      refine Tl.setAt S2 0 rfl ema (by rw [i6rows_len]; omega) rfl sz2 rfl fun h3 S3 => ?_
      repeat (first | (with_reducible apply Tl.val; focus (simp (disch := omega) only [coreA, Int.reduceBEq, base_I2, hmb] <;> with_reducible rfl)) | with_reducible refine Tl.brT ?_ | with_reducible refine Tl.brF ?_ | with_reducible refine Tl.gd_on ?_ | with_reducible refine Tl.gd3_on ?_ | ((first | with_reducible apply Tl.brC | with_reducible apply Tl.gdC | with_reducible apply Tl.gd3C); focus (simp (disch := omega) only [coreA, Int.reduceBEq, base_I2, hmb] <;> with_reducible rfl)))
      refine Tl.setAt S3 0 rfl emb (by rw [List.length_set, i6rows_len]; omega) rfl sz2 rfl fun h4 S4 => ?_
      have S4 : Stt Try.prog h.n h h4 [] [(mv, 1, i6rows ((l.set ia y).set ib x))] := by
        rw [← i6set, ← i6set]; exact S4
      refine Tl.bind (f12c (k := k + 19999) S4 (Sl1.grow A S4.grow) (by omega)) ?_
      rintro ⟨nv, h5⟩ ⟨S5, g5⟩
      simp only at S5 g5
      refine Tl.push S5 0 rfl app25 (bs25 _ _) rfl rfl (by rw [i6rows_len]; omega) fun nv2 h6 S6 => ?_
      have S6 : Stt Try.prog h.n h h6 [] [(nv2, 1, i6rows (l ++ [w])), (mv, 1, i6rows ((l.set ia y).set ib x))] := by
        have e : i6rows (l ++ [w]) = i6rows l ++ [[.int .i64 w]] := by simp [i6rows, i6v]
        rw [e]; exact S6
      have hml : ((l.set ia y).set ib x).length = l.length := by simp
      have hnl : (l ++ [w]).length = l.length + 1 := by simp
      refine Tl.bind (f11c (k := k + 19500) (Sl1.grow A S6.grow) (by omega) (by omega)) ?_
      rintro ⟨r, h7⟩ ⟨p1, er, g7, X7⟩
      simp only at er g7 X7
      subst er
      have S7 := S6.gain g7 X7
      repeat (first | (with_reducible apply Tl.val; focus (simp (disch := omega) only [coreA, Int.reduceBEq, base_I2] <;> with_reducible rfl)) | with_reducible refine Tl.brT ?_ | with_reducible refine Tl.brF ?_ | with_reducible refine Tl.gd_on ?_ | with_reducible refine Tl.gd3_on ?_ | ((first | with_reducible apply Tl.brC | with_reducible apply Tl.gdC | with_reducible apply Tl.gd3C); focus (simp (disch := omega) only [coreA, Int.reduceBEq, base_I2] <;> with_reducible rfl)))
      refine Tl.bind (f11c (k := k + 19500) (S7.sl1 (f := i6v) 2 rfl) (by omega) (by omega)) ?_
      rintro ⟨r, h8⟩ ⟨p2, er, g8, X8⟩
      simp only at er g8 X8
      subst er
      have S8 := S7.gain g8 X8
      repeat (first | (with_reducible apply Tl.val; focus (simp (disch := omega) only [coreA, Int.reduceBEq, base_I2] <;> with_reducible rfl)) | with_reducible refine Tl.brT ?_ | with_reducible refine Tl.brF ?_ | with_reducible refine Tl.gd_on ?_ | with_reducible refine Tl.gd3_on ?_ | ((first | with_reducible apply Tl.brC | with_reducible apply Tl.gdC | with_reducible apply Tl.gd3C); focus (simp (disch := omega) only [coreA, Int.reduceBEq, base_I2] <;> with_reducible rfl)))
      refine Tl.bind (f11c (k := k + 19500) (S8.sl1 (f := i6v) 2 rfl) (by omega) (by omega)) ?_
      rintro ⟨r, h9⟩ ⟨p3, er, g9, X9⟩
      simp only at er g9 X9
      subst er
      have S9 := S8.gain g9 X9
      repeat (first | (with_reducible apply Tl.val; focus (simp (disch := omega) only [coreA, Int.reduceBEq, base_I2] <;> with_reducible rfl)) | with_reducible refine Tl.brT ?_ | with_reducible refine Tl.brF ?_ | with_reducible refine Tl.gd_on ?_ | with_reducible refine Tl.gd3_on ?_ | ((first | with_reducible apply Tl.brC | with_reducible apply Tl.gdC | with_reducible apply Tl.gd3C); focus (simp (disch := omega) only [coreA, Int.reduceBEq, base_I2] <;> with_reducible rfl)))
      refine Tl.bind (f13c (k := k + 19970) (Sl1.grow A S9.grow) (by omega) (by omega)) ?_
      rintro ⟨r, h10⟩ ⟨p4, er, g10, X10⟩
      simp only at er g10 X10
      subst er
      have S10 := S9.gain g10 X10
      repeat (first | (with_reducible apply Tl.val; focus (simp (disch := omega) only [coreA, Int.reduceBEq, base_I2] <;> with_reducible rfl)) | with_reducible refine Tl.brT ?_ | with_reducible refine Tl.brF ?_ | with_reducible refine Tl.gd_on ?_ | with_reducible refine Tl.gd3_on ?_ | ((first | with_reducible apply Tl.brC | with_reducible apply Tl.gdC | with_reducible apply Tl.gd3C); focus (simp (disch := omega) only [coreA, Int.reduceBEq, base_I2] <;> with_reducible rfl)))
      refine Tl.bind (f13c (k := k + 19970) (S10.sl1 (f := i6v) 5 rfl) (by omega) (by omega)) ?_
      rintro ⟨r, h11⟩ ⟨p5, er, g11, X11⟩
      simp only at er g11 X11
      subst er
      have S11 := S10.gain g11 X11
      repeat (first | (with_reducible apply Tl.val; focus (simp (disch := omega) only [coreA, Int.reduceBEq, base_I2] <;> with_reducible rfl)) | with_reducible refine Tl.brT ?_ | with_reducible refine Tl.brF ?_ | with_reducible refine Tl.gd_on ?_ | with_reducible refine Tl.gd3_on ?_ | ((first | with_reducible apply Tl.brC | with_reducible apply Tl.gdC | with_reducible apply Tl.gd3C); focus (simp (disch := omega) only [coreA, Int.reduceBEq, base_I2] <;> with_reducible rfl)))
      refine Tl.bind (f13c (k := k + 19970) (S11.sl1 (f := i6v) 5 rfl) (by omega) (by omega)) ?_
      rintro ⟨r, h12⟩ ⟨p6, er, g12, X12⟩
      simp only at er g12 X12
      subst er
      have S12 := S11.gain g12 X12
      repeat (first | (with_reducible apply Tl.val; focus (simp (disch := omega) only [coreA, Int.reduceBEq, base_I2] <;> with_reducible rfl)) | with_reducible refine Tl.brT ?_ | with_reducible refine Tl.brF ?_ | with_reducible refine Tl.gd_on ?_ | with_reducible refine Tl.gd3_on ?_ | ((first | with_reducible apply Tl.brC | with_reducible apply Tl.gdC | with_reducible apply Tl.gd3C); focus (simp (disch := omega) only [coreA, Int.reduceBEq, base_I2] <;> with_reducible rfl)))
      refine Tl.bind (f14c (k := k + 19970) (Sl1.grow A S12.grow) (by omega) (by omega)) ?_
      rintro ⟨r, h13⟩ ⟨p7, er, g13, X13⟩
      simp only at er g13 X13
      subst er
      have S13 := S12.gain g13 X13
      repeat (first | (with_reducible apply Tl.val; focus (simp (disch := omega) only [coreA, Int.reduceBEq, base_I2] <;> with_reducible rfl)) | with_reducible refine Tl.brT ?_ | with_reducible refine Tl.brF ?_ | with_reducible refine Tl.gd_on ?_ | with_reducible refine Tl.gd3_on ?_ | ((first | with_reducible apply Tl.brC | with_reducible apply Tl.gdC | with_reducible apply Tl.gd3C); focus (simp (disch := omega) only [coreA, Int.reduceBEq, base_I2] <;> with_reducible rfl)))
      refine Tl.bind (f14c (k := k + 19970) (S13.sl1 (f := i6v) 7 rfl) (by omega) (by omega)) ?_
      rintro ⟨r, h14⟩ ⟨p8, er, g14, X14⟩
      simp only at er g14 X14
      subst er
      have S14 := S13.gain g14 X14
      have S14 : Stt Try.prog h.n h h14 [] [(p8, 1, u8rows (runsB (l ++ [w]))), (p7, 1, u8rows (runsB l)), (p6, 1, u8rows (plainB (l ++ [w]))), (p5, 1, u8rows (plainB ((l.set ia y).set ib x))), (p4, 1, u8rows (plainB l)),
        (p3, 1, u8rows (packB (l ++ [w]))), (p2, 1, u8rows (packB ((l.set ia y).set ib x))), (p1, 1, u8rows (packB l)), (nv2, 1, i6rows (l ++ [w])), (mv, 1, i6rows ((l.set ia y).set ib x))] := S14
      have len : ∀ (i : Nat) (q : Value) (bs : List Nat), ([(p8, 1, u8rows (runsB (l ++ [w]))), (p7, 1, u8rows (runsB l)), (p6, 1, u8rows (plainB (l ++ [w]))), (p5, 1, u8rows (plainB ((l.set ia y).set ib x))), (p4, 1, u8rows (plainB l)),
        (p3, 1, u8rows (packB (l ++ [w]))), (p2, 1, u8rows (packB ((l.set ia y).set ib x))), (p1, 1, u8rows (packB l)), (nv2, 1, i6rows (l ++ [w])), (mv, 1, i6rows ((l.set ia y).set ib x))] : List OS)[i]? = some (q, 1, u8rows bs) → ∀ h', pLen Try.prog #[26] q h' = some (.int .i64 bs.length) := fun i q bs hi h' => by
        have := SlV.len (S14.slV i hi) u26 (h' := h')
        rw [u8rows_len] at this
        exact this
      have l8 := len 0 _ _ rfl
      have l7 := len 1 _ _ rfl
      have l6 := len 2 _ _ rfl
      have l5 := len 3 _ _ rfl
      have l4 := len 4 _ _ rfl
      have l3 := len 5 _ _ rfl
      have l2 := len 6 _ _ rfl
      have l1 := len 7 _ _ rfl
      -- the arithmetic
      have ws : widI l = widI ((l.set ia y).set ib x) := wid_same (swap_mem hx hy) hne hok
      have wm := wid_more hne hok hw
      have wl := widI_le (l ++ [w])
      have c1 := pack_len l
      have c2 := pack_len ((l.set ia y).set ib x)
      have c3 := pack_len (l ++ [w])
      have c4 := plain_len l
      have c5 := plain_len ((l.set ia y).set ib x)
      have c6 := plain_len (l ++ [w])
      have c7 := runs_len l
      have c8 := runs_len (l ++ [w])
      rw [hml, ← ws] at c2
      rw [hml] at c5
      rw [hnl] at c3 c6 c8
      have pm : (pvarN l.length).length ≤ (pvarN (l.length + 1)).length := pvarN_mono (Nat.le_succ _)
      have ps := pvarN_succ l.length
      obtain ⟨r1, r2⟩ := runs_snoc l w hne
      have hmul : l.length * widI l ≤ (l.length + 1) * widI (l ++ [w]) := Nat.mul_le_mul (by omega) wm
      have hdiv : (l.length * widI l + 7) / 8 ≤ ((l.length + 1) * widI (l ++ [w]) + 7) / 8 := Nat.div_le_div_right (by omega)
      have t12 : (packB l).length = (packB ((l.set ia y).set ib x)).length := by omega
      have t45 : (plainB l).length = (plainB ((l.set ia y).set ib x)).length := by omega
      have t6 : (plainB (l ++ [w])).length ≥ (plainB l).length + 8 := by omega
      have t3 : (packB (l ++ [w])).length ≥ (packB l).length := by omega
      have t8 : (runsB (l ++ [w])).length ≥ (runsB l).length := by omega
      have small : (plainB l).length ≤ 100000 := by
        have := pvarN_le10 (n := l.length) (by omega)
        omega
      have small2 : (runsB l).length ≤ 10000000 := by have := runs_small l (by omega); omega
      clear c1 c2 c3 c4 c5 c6 c7 c8 hmul hdiv
      -- the last one
      obtain ⟨z, hz⟩ : ∃ z, l[l.length - 1]? = some z := ⟨_, List.getElem?_eq_getElem (by omega)⟩
      have hlast : l.getLast hne = z := by
        rw [List.getLast_eq_getElem]
        rw [List.getElem?_eq_getElem (by omega)] at hz
        exact Option.some.inj hz
      obtain ⟨bz, oz, hpz, hcz⟩ := Sl1.at_ (Sl1.grow A S14.grow) (t := 25) (k := .i64) hz u25 sz2
      have hcz := hcz h14 (Grow.refl _)
      have ez : ((l.length - 1 : Nat) : Int) = (l.length : Int) - 1 := by omega
      rw [ez] at hpz
      by_cases qz : w = z
      · have t9 : (runsB (l ++ [w])).length ≤ (runsB l).length + 2 := by
          have := r2 (by rw [hlast]; exact qz)
          rw [runs_len, runs_len, hnl]
          omega
        repeat (first | (with_reducible apply Tl.val; focus (simp (disch := omega) only [coreA, Int.reduceBEq, base_I2, l1, l2, l3, l4, l5, l6, l7, l8, hv, hpz, hcz, i6v] <;> with_reducible rfl)) | with_reducible refine Tl.brT ?_ | with_reducible refine Tl.brF ?_ | with_reducible refine Tl.gd_on ?_ | with_reducible refine Tl.gd3_on ?_ | ((first | with_reducible apply Tl.brC | with_reducible apply Tl.gdC | with_reducible apply Tl.gd3C); focus (simp (disch := omega) only [coreA, Int.reduceBEq, base_I2, l1, l2, l3, l4, l5, l6, l7, l8, hv, hpz, hcz, i6v] <;> with_reducible rfl)))
        exact ⟨_, rfl, rfl⟩
      · repeat (first | (with_reducible apply Tl.val; focus (simp (disch := omega) only [coreA, Int.reduceBEq, base_I2, l1, l2, l3, l4, l5, l6, l7, l8, hv, hpz, hcz, i6v] <;> with_reducible rfl)) | with_reducible refine Tl.brT ?_ | with_reducible refine Tl.brF ?_ | with_reducible refine Tl.gd_on ?_ | with_reducible refine Tl.gd3_on ?_ | ((first | with_reducible apply Tl.brC | with_reducible apply Tl.gdC | with_reducible apply Tl.gd3C); focus (simp (disch := omega) only [coreA, Int.reduceBEq, base_I2, l1, l2, l3, l4, l5, l6, l7, l8, hv, hpz, hcz, i6v] <;> with_reducible rfl)))
        exact ⟨_, rfl, rfl⟩
  · repeat (first | (with_reducible apply Tl.val; focus (simp (disch := omega) only [coreA, Int.reduceBEq, base_I2, hv] <;> with_reducible rfl)) | with_reducible refine Tl.brT ?_ | with_reducible refine Tl.brF ?_ | with_reducible refine Tl.gd_on ?_ | with_reducible refine Tl.gd3_on ?_ | ((first | with_reducible apply Tl.brC | with_reducible apply Tl.gdC | with_reducible apply Tl.gd3C); focus (simp (disch := omega) only [coreA, Int.reduceBEq, base_I2, hv] <;> with_reducible rfl)))
    exact ⟨_, rfl, rfl⟩
end Go.Proofs.Ytcidbbkefpeahaa.Sh
