/- batch.Check. -/
import Derived.Test.YtjmfokglckaneaaSzWq
set_option linter.unusedVariables false
set_option linter.unusedSimpArgs false
set_option maxRecDepth 100000
namespace Go.Proofs.Ytjmfokglckaneaa.Sh
open Go Go.RowKit Go.Proofs.Ev
theorem base_Wr : type_of% (And.intro @ld3 (And.intro @ld36 (And.intro @ld23 (And.intro @ld37 (And.intro @ld35 (And.intro @ld39 (And.intro @fa39_0 (And.intro @fa39_1 (And.intro @fa39_2 (And.intro @fa39_3 (And.intro @fa39_4 (@Nat.add_zero)))))))))))) := And.intro @ld3 (And.intro @ld36 (And.intro @ld23 (And.intro @ld37 (And.intro @ld35 (And.intro @ld39 (And.intro @fa39_0 (And.intro @fa39_1 (And.intro @fa39_2 (And.intro @fa39_3 (And.intro @fa39_4 (@Nat.add_zero)))))))))))
theorem ChangeF.form {h : AH} {rv pv cv tv : Value} {c : ChangeD} (F : ChangeF h rv pv cv tv c) : (∃ a m c, rv = .slice a m c) ∧ (∃ a m c, pv = .slice a m c) ∧ (∃ a m c, cv = .slice a m c) ∧ ∃ a m c, tv = .slice a m c := by
  refine ⟨?_, ?_, ?_, ?_⟩
  · obtain ⟨vs, X, _⟩ := F.1
    obtain ⟨a, c, e, _⟩ := X.form
    exact ⟨a, _, c, e⟩
  · obtain ⟨vs, X, _⟩ := F.2.1
    obtain ⟨a, c, e, _⟩ := X.form
    exact ⟨a, _, c, e⟩
  · obtain ⟨a, c, e, _⟩ := SlZ.form F.2.2.1
    exact ⟨a, _, c, e⟩
  · obtain ⟨a, c, e, _⟩ := SlZ.form F.2.2.2
    exact ⟨a, _, c, e⟩
theorem bare_to {c : ChangeD} (h : bareB c = true) : c.cols.length ≤ c.to.length := by
  unfold bareB at h
  split at h
  · simp at h; simp [h.2.1]
  · split at h
    · simp at h; simp [h.2.1]
    · split at h
      · simp at h; omega
      · cases h
theorem f34c {k : Nat} {h0 h : AH} {L : List (Nat × AO)} {O : List OS} {b6 n0 : Nat} {cv rv pv iv tv : Value} {C : List ColD} {c : ChangeD} (CV : Cols h0 cv C) (hC : C.length ≤ 9223372036854775807) (F : ChangeF h0 rv pv iv tv c) (ok : ChC c) (hn0 : n0 ≤ 100000) (hk : 100000 < k)
    (S : Stt Try.prog h0.n h0 h ((b6, .cells [.int .i64 (n0 : Int)] 3 true) :: L) O) :
    Tl (eInv env (k + 1311) (.func 34) #[] #[cv, .agg (chrow c.kind rv pv iv tv).toArray, .pointer (some ⟨b6, 0, none⟩)] h) fun r => ∃ (e : Int) (w : Value), r.1 = .int .i64 e ∧ Stt Try.prog h0.n h0 r.2 ((b6, .cells [w] 3 true) :: L) O ∧ (e = 0 ↔ changeOk C c n0 = true) ∧ (e = 0 → w = .int .i64 ((n0 + c.rows.length : Nat) : Int)) := by
  rw [F34_call]
  unfold F34 changeOk
  refine Tl.box' S rfl (by rw [sz39]; rfl) fun b4 h1 S1 g1 => ?_
  have S1 : Stt Try.prog h0.n h0 h1 ((b4, .cells (chrow c.kind rv pv iv tv) 39 true) :: (b6, .cells [.int .i64 (n0 : Int)] 3 true) :: L) O := S1
  have r4 : h1.row b4 0 5 = some (chrow c.kind rv pv iv tv) := S1.row 0 rfl rfl
  have hrl := ok.rows
  have hcl := ok.cols
  have htl := ok.to
  have hpl := ok.pred
  repeat (first | (with_reducible apply Tl.val; focus (simp (disch := omega) only [coreA, Int.reduceBEq, base_Wr, r4] <;> with_reducible rfl)) | (with_reducible first | refine Tl.brT ?_ | refine Tl.brF ?_ | refine Tl.gd_on ?_ | refine Tl.gd3_on ?_) | ((with_reducible first | apply Tl.brC | apply Tl.gdC | apply Tl.gd3C); focus (simp (disch := omega) only [coreA, Int.reduceBEq, base_Wr, r4] <;> with_reducible rfl)))
  refine Tl.call' S1 (f55c (k := k + 1309) (F.grow S1.grow) (by omega) (by omega) (by omega) (by omega)) fun h2 S2 g2 => ?_
  cases q1 : bareB c with
  | false =>
    repeat (first | (with_reducible apply Tl.val; focus (simp (disch := omega) only [coreA, Int.reduceBEq, base_Wr] <;> with_reducible rfl)) | (with_reducible first | refine Tl.brT ?_ | refine Tl.brF ?_ | refine Tl.gd_on ?_ | refine Tl.gd3_on ?_) | ((with_reducible first | apply Tl.brC | apply Tl.gdC | apply Tl.gd3C); focus (simp (disch := omega) only [coreA, Int.reduceBEq, base_Wr] <;> with_reducible rfl)))
    exact ⟨_, rfl, 190, _, rfl, (S2.drop), by simp, fun e => by omega⟩
  | true =>
  rw [Bool.true_and]
  have c2 : h2.cell b4 2 = some pv := S2.cell 0 rfl rfl
  repeat (first | (with_reducible apply Tl.val; focus (simp (disch := omega) only [coreA, Int.reduceBEq, base_Wr, c2] <;> with_reducible rfl)) | (with_reducible first | refine Tl.brT ?_ | refine Tl.brF ?_ | refine Tl.gd_on ?_ | refine Tl.gd3_on ?_) | ((with_reducible first | apply Tl.brC | apply Tl.gdC | apply Tl.gd3C); focus (simp (disch := omega) only [coreA, Int.reduceBEq, base_Wr, c2] <;> with_reducible rfl)))
  refine Tl.bind (f56c (k := k + 10) (CV.grow S2.grow) hC (F.2.1.grow S2.grow) (by omega) ok.parts) ?_
  rintro ⟨r, h3⟩ ⟨⟨e, er, he⟩, g3⟩
  simp only at er g3
  subst er
  have S3 := S2.call g3
  by_cases q2 : ¬ e = 0
  · have hp : predOk C c.pred = false := by
      cases hf : predOk C c.pred with
      | false => rfl
      | true => exact absurd (he.2 hf) q2
    repeat (first | (with_reducible apply Tl.val; focus (simp (disch := omega) only [coreA, Int.reduceBEq, base_Wr] <;> with_reducible rfl)) | (with_reducible first | refine Tl.brT ?_ | refine Tl.brF ?_ | refine Tl.gd_on ?_ | refine Tl.gd3_on ?_) | ((with_reducible first | apply Tl.brC | apply Tl.gdC | apply Tl.gd3C); focus (simp (disch := omega) only [coreA, Int.reduceBEq, base_Wr] <;> with_reducible rfl)))
    exact ⟨_, rfl, e, _, rfl, S3.drop, by rw [hp]; simp [q2], fun e => absurd e q2⟩
  have q2 : e = 0 := Classical.not_not.1 q2
  rw [he.1 q2, Bool.true_and]
  have c1 : h3.cell b4 1 = some rv := S3.cell 0 rfl rfl
  have l1 : ∀ h', pLen Try.prog #[23] rv h' = some (.int .i64 c.rows.length) := fun h' => F.1.len
  repeat (first | (with_reducible apply Tl.val; focus (simp (disch := omega) only [coreA, Int.reduceBEq, base_Wr, c1, l1] <;> with_reducible rfl)) | (with_reducible first | refine Tl.brT ?_ | refine Tl.brF ?_ | refine Tl.gd_on ?_ | refine Tl.gd3_on ?_) | ((with_reducible first | apply Tl.brC | apply Tl.gdC | apply Tl.gd3C); focus (simp (disch := omega) only [coreA, Int.reduceBEq, base_Wr, c1, l1] <;> with_reducible rfl)))
  refine f34_loop (k := k + 1010) (n0 := n0) CV hC F.1 hrl hn0 ok.row (fun h' L' O' S' => S'.grow) c.rows.length (i := 0) (by omega) (by omega) (.inl rfl) S3 (fun a1 a2 y1 y2 y3 y4 h4 S4 => ?_) fun a e h4 w he4 S4 => ?_
  · rw [List.drop_zero] at a1
    have r4 : h4.row b4 0 5 = some (chrow c.kind rv pv iv tv) := S4.row 0 rfl rfl
    repeat (first | (with_reducible apply Tl.val; focus (simp (disch := omega) only [coreA, Int.reduceBEq, base_Wr, r4] <;> with_reducible rfl)) | (with_reducible first | refine Tl.brT ?_ | refine Tl.brF ?_ | refine Tl.gd_on ?_ | refine Tl.gd3_on ?_) | ((with_reducible first | apply Tl.brC | apply Tl.gdC | apply Tl.gd3C); focus (simp (disch := omega) only [coreA, Int.reduceBEq, base_Wr, r4] <;> with_reducible rfl)))
    refine Tl.bind (f58c (k := k + 1299) (CV.grow S4.grow) hC (F.grow S4.grow) (by omega) (bare_to q1) ok.cell (by omega)) ?_
    rintro ⟨r, h5⟩ ⟨⟨e, er, he⟩, g5⟩
    simp only at er g5
    subst er
    refine ⟨_, rfl, e, _, rfl, (S4.call g5).drop, ?_, fun _ => rfl⟩
    rw [a1, decide_eq_true a2, Bool.true_and, Bool.true_and]
    exact he
  · rw [List.drop_zero] at a
    refine ⟨_, rfl, e, w, rfl, S4.drop, ?_, fun e => absurd e he4⟩
    constructor
    · intro e; exact absurd e he4
    · intro q
      rw [Bool.and_eq_true, Bool.and_eq_true] at q
      exact absurd ⟨q.1.1, of_decide_eq_true q.1.2⟩ a
def batchGo (C : List ColD) : Nat → List ChangeD → Bool
  | _, [] => true
  | n, c :: l => changeOk C c n && batchGo C (n + c.rows.length) l
/-- Which batches may be. -/
def batchOk (C : List ColD) (l : List ChangeD) : Bool := colsOk C && (decide (1 ≤ l.length ∧ l.length ≤ 16) && batchGo C 0 l)
theorem change_rows {C : List ColD} {c : ChangeD} {n : Nat} (h : changeOk C c n = true) : c.rows.length = 0 ∨ n + c.rows.length ≤ 256 := by
  unfold changeOk at h
  simp only [Bool.and_eq_true, decide_eq_true_eq] at h
  exact h.2.2.1.2
theorem f10_loop {β : Type} {k : Nat} {Q : β → Prop} {h0 : AH} {b6 : Nat} {cv lv : Value} {C : List ColD} {l : List ChangeD} (CV : Cols h0 cv C) (hC : C.length ≤ 9223372036854775807) (B : Changes h0 lv l) (hl : l.length ≤ 1000) (ok : ∀ c ∈ l, ChC c) (hk : 100000 < k)
    {ke0 : Value → Value → Value → Value → Value → Value → AH → Option β} {kr : Value → AH → Option β} (n : Nat) :
    ∀ {i j m : Nat} {h : AH}, i + n = l.length → n < j → m ≤ 256 → Stt Try.prog h0.n h0 h [(b6, .cells [.int .i64 (m : Int)] 3 true)] [] →
      (batchGo C m (l.drop i) = true → ∀ y1 y2 y3 y4 y5 y6 h', Grow h0 h' → Tl (ke0 y1 y2 y3 y4 y5 y6 h') Q) → (batchGo C m (l.drop i) = false → ∀ e h', e ≠ 0 → Grow h0 h' → Tl (kr (.int .i64 e) h') Q) →
      Tl (F10_lrlrrrr (eInv env (k + 1311)) (k + 1311) j cv (.pointer (some ⟨b6, 0, none⟩)) lv (.int .i64 l.length) (.int .i64 i) h ke0 kr) Q := by
  induction n with
  | zero =>
    intro i j m h hi hj hm S hk' hr
    obtain ⟨j, rfl⟩ : ∃ q, j = q + 1 := ⟨j - 1, by omega⟩
    simp only [F10_lrlrrrr]
    repeat (first | (with_reducible apply Tl.val; focus (simp (disch := omega) only [coreA, Int.reduceBEq, base_Wr] <;> with_reducible rfl)) | (with_reducible first | refine Tl.brT ?_ | refine Tl.brF ?_ | refine Tl.gd_on ?_ | refine Tl.gd3_on ?_) | ((with_reducible first | apply Tl.brC | apply Tl.gdC | apply Tl.gd3C); focus (simp (disch := omega) only [coreA, Int.reduceBEq, base_Wr] <;> with_reducible rfl)))
    exact hk' (by rw [List.drop_eq_nil_of_le (by omega)]; rfl) _ _ _ _ _ _ _ S.grow
  | succ n ih =>
    intro i j m h hi hj hm S hk' hr
    obtain ⟨j, rfl⟩ : ∃ q, j = q + 1 := ⟨j - 1, by omega⟩
    obtain ⟨c, ec⟩ : ∃ x, l[i]? = some x := ⟨_, List.getElem?_eq_getElem (by omega)⟩
    obtain ⟨b, o, rv, pv, iv, tv, hp, hrow, F⟩ := B.at_ ec
    obtain ⟨⟨a1, m1, c1, rfl⟩, ⟨a2, m2, c2, rfl⟩, ⟨a3, m3, c3, rfl⟩, ⟨a4, m4, c4, rfl⟩⟩ := F.form
    have hrow1 := S.grow.row hrow
    have okc := ok c (List.mem_of_getElem? ec)
    have e : (i : Int) + 1 = ((i + 1 : Nat) : Int) := by omega
    rw [drop_at ec, batchGo] at hk' hr
    simp only [F10_lrlrrrr]
    repeat (first | (with_reducible apply Tl.val; focus (simp (disch := omega) only [coreA, Int.reduceBEq, base_Wr, hp, hrow1] <;> with_reducible rfl)) | (with_reducible first | refine Tl.brT ?_ | refine Tl.brF ?_ | refine Tl.gd_on ?_ | refine Tl.gd3_on ?_) | ((with_reducible first | apply Tl.brC | apply Tl.gdC | apply Tl.gd3C); focus (simp (disch := omega) only [coreA, Int.reduceBEq, base_Wr, hp, hrow1] <;> with_reducible rfl)))
    refine Tl.alloc' S ze39 (by rfl) fun b8 h1 S1 g1 => ?_
    refine Tl.store' S1 0 rfl sz39 rfl rfl (by simp [Value.cells]) fun h2 S2 k2 => ?_
    have S2 : Stt Try.prog h0.n h0 h2 [(b8, .cells (chrow c.kind (.slice a1 m1 c1) (.slice a2 m2 c2) (.slice a3 m3 c3) (.slice a4 m4 c4)) 39 true), (b6, .cells [.int .i64 (m : Int)] 3 true)] [] := S2
    have r8 : h2.row b8 0 5 = some (chrow c.kind (.slice a1 m1 c1) (.slice a2 m2 c2) (.slice a3 m3 c3) (.slice a4 m4 c4)) := S2.row 0 rfl rfl
    repeat (first | (with_reducible apply Tl.val; focus (simp (disch := omega) only [coreA, Int.reduceBEq, base_Wr, r8] <;> with_reducible rfl)) | (with_reducible first | refine Tl.brT ?_ | refine Tl.brF ?_ | refine Tl.gd_on ?_ | refine Tl.gd3_on ?_) | ((with_reducible first | apply Tl.brC | apply Tl.gdC | apply Tl.gd3C); focus (simp (disch := omega) only [coreA, Int.reduceBEq, base_Wr, r8] <;> with_reducible rfl)))
    refine Tl.bind (f34c (k := k) CV hC F okc (by omega) hk (S2.perm (List.Perm.swap _ _ _))) ?_
    rintro ⟨r, h3⟩ ⟨z, w, er, S3, hz, hw⟩
    simp only at er S3
    subst er
    by_cases q : z = 0
    · have q1 := hz.1 q
      rw [q1, Bool.true_and] at hk' hr
      have hw := hw q
      subst hw
      repeat (first | (with_reducible apply Tl.val; focus (simp (disch := omega) only [coreA, Int.reduceBEq, base_Wr] <;> with_reducible rfl)) | (with_reducible first | refine Tl.brT ?_ | refine Tl.brF ?_ | refine Tl.gd_on ?_ | refine Tl.gd3_on ?_) | ((with_reducible first | apply Tl.brC | apply Tl.gdC | apply Tl.gd3C); focus (simp (disch := omega) only [coreA, Int.reduceBEq, base_Wr] <;> with_reducible rfl)))
      rw [e]
      exact ih (by omega) (by omega) (by rcases change_rows q1 with q | q <;> omega) (S3.perm (List.Perm.swap _ _ _)).drop hk' hr
    · have : changeOk C c m = false := by
        cases hx : changeOk C c m with
        | false => rfl
        | true => exact absurd (hz.2 hx) q
      rw [this, Bool.false_and] at hr
      repeat (first | (with_reducible apply Tl.val; focus (simp (disch := omega) only [coreA, Int.reduceBEq, base_Wr] <;> with_reducible rfl)) | (with_reducible first | refine Tl.brT ?_ | refine Tl.brF ?_ | refine Tl.gd_on ?_ | refine Tl.gd3_on ?_) | ((with_reducible first | apply Tl.brC | apply Tl.gdC | apply Tl.gd3C); focus (simp (disch := omega) only [coreA, Int.reduceBEq, base_Wr] <;> with_reducible rfl)))
      exact hr rfl _ _ q S3.grow
theorem f10c {k : Nat} {h : AH} {cv lv : Value} {C : List ColD} {l : List ChangeD} (CV : Cols h cv C) (hC : C.length ≤ 9223372036854775807) (B : Changes h lv l) (hl : l.length ≤ 1000) (ok : ∀ c ∈ l, ChC c) (hk : 100000 < k) :
    Tl (eInv env (k + 1312) (.func 10) #[] #[cv, lv] h) fun r => (∃ e : Int, r.1 = .int .i64 e ∧ (e = 0 ↔ batchOk C l = true)) ∧ Grow h r.2 := by
  rw [F10_call]
  unfold F10 batchOk
  have hv : ∀ h', pLen Try.prog #[24] lv h' = some (.int .i64 l.length) := fun h' => B.len
  refine Tl.bind (f33c (k := k + 1110) CV hC) ?_
  rintro ⟨r, h1⟩ ⟨⟨e, er, he⟩, g1⟩
  simp only at er g1
  subst er
  by_cases q : e = 0
  · rw [he.1 q, Bool.true_and]
    simp only [G10_4]
    by_cases q1 : 1 ≤ l.length
    · by_cases q2 : l.length ≤ 16
      · rw [decide_eq_true ⟨q1, q2⟩, Bool.true_and]
        repeat (first | (with_reducible apply Tl.val; focus (simp (disch := omega) only [coreA, Int.reduceBEq, base_Wr, hv] <;> with_reducible rfl)) | (with_reducible first | refine Tl.brT ?_ | refine Tl.brF ?_ | refine Tl.gd_on ?_ | refine Tl.gd3_on ?_) | ((with_reducible first | apply Tl.brC | apply Tl.gdC | apply Tl.gd3C); focus (simp (disch := omega) only [coreA, Int.reduceBEq, base_Wr, hv] <;> with_reducible rfl)))
        refine Tl.alloc' ((Stt.init h : Stt Try.prog h.n h h [] []).call g1) ze3 (by rfl) fun b6 h2 S2 g2 => ?_
        refine Tl.store' S2 0 rfl sz3 rfl rfl (by simp [Value.cells]) fun h3 S3 k3 => ?_
        have S3 : Stt Try.prog h.n h h3 [(b6, .cells [.int .i64 ((0 : Nat) : Int)] 3 true)] [] := S3
        repeat (first | (with_reducible apply Tl.val; focus (simp (disch := omega) only [coreA, Int.reduceBEq, base_Wr, hv] <;> with_reducible rfl)) | (with_reducible first | refine Tl.brT ?_ | refine Tl.brF ?_ | refine Tl.gd_on ?_ | refine Tl.gd3_on ?_) | ((with_reducible first | apply Tl.brC | apply Tl.gdC | apply Tl.gd3C); focus (simp (disch := omega) only [coreA, Int.reduceBEq, base_Wr, hv] <;> with_reducible rfl)))
        refine f10_loop CV hC B hl ok hk l.length (i := 0) (m := 0) (by omega) (by omega) (by omega) S3 (fun q3 y1 y2 y3 y4 y5 y6 h' g => ?_) fun q3 z h' hz g => ?_
        · rw [List.drop_zero] at q3
          exact ⟨_, rfl, ⟨0, rfl, by simp [q3]⟩, g⟩
        · rw [List.drop_zero] at q3
          exact ⟨_, rfl, ⟨z, rfl, by simp [q3, hz]⟩, g⟩
      · rw [decide_eq_false (fun q => q2 q.2)]
        repeat (first | (with_reducible apply Tl.val; focus (simp (disch := omega) only [coreA, Int.reduceBEq, base_Wr, hv] <;> with_reducible rfl)) | (with_reducible first | refine Tl.brT ?_ | refine Tl.brF ?_ | refine Tl.gd_on ?_ | refine Tl.gd3_on ?_) | ((with_reducible first | apply Tl.brC | apply Tl.gdC | apply Tl.gd3C); focus (simp (disch := omega) only [coreA, Int.reduceBEq, base_Wr, hv] <;> with_reducible rfl)))
        exact ⟨_, rfl, ⟨190, rfl, by simp⟩, g1⟩
    · rw [decide_eq_false (fun q => q1 q.1)]
      repeat (first | (with_reducible apply Tl.val; focus (simp (disch := omega) only [coreA, Int.reduceBEq, base_Wr, hv] <;> with_reducible rfl)) | (with_reducible first | refine Tl.brT ?_ | refine Tl.brF ?_ | refine Tl.gd_on ?_ | refine Tl.gd3_on ?_) | ((with_reducible first | apply Tl.brC | apply Tl.gdC | apply Tl.gd3C); focus (simp (disch := omega) only [coreA, Int.reduceBEq, base_Wr, hv] <;> with_reducible rfl)))
      exact ⟨_, rfl, ⟨190, rfl, by simp⟩, g1⟩
  · have q' : colsOk C = false := by
      cases hf : colsOk C with
      | false => rfl
      | true => exact absurd (he.2 hf) q
    rw [q', Bool.false_and]
    repeat (first | (with_reducible apply Tl.val; focus (simp (disch := omega) only [coreA, Int.reduceBEq, base_Wr, hv] <;> with_reducible rfl)) | (with_reducible first | refine Tl.brT ?_ | refine Tl.brF ?_ | refine Tl.gd_on ?_ | refine Tl.gd3_on ?_) | ((with_reducible first | apply Tl.brC | apply Tl.gdC | apply Tl.gd3C); focus (simp (disch := omega) only [coreA, Int.reduceBEq, base_Wr, hv] <;> with_reducible rfl)))
    exact ⟨_, rfl, ⟨e, rfl, by simp [q]⟩, g1⟩
end Go.Proofs.Ytjmfokglckaneaa.Sh
