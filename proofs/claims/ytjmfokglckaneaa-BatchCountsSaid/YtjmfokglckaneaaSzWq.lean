/- Which batches may be. -/
import Derived.Test.YtjmfokglckaneaaSzWp
import Derived.Test.YtjmfokglckaneaaSzVk
set_option linter.unusedVariables false
set_option linter.unusedSimpArgs false
set_option maxRecDepth 100000
namespace Go.Proofs.Ytjmfokglckaneaa.Sh
open Go Go.RowKit Go.Proofs.Ev
theorem base_Wq : type_of% (And.intro @ld3 (And.intro @ld2 (And.intro @ld4 (And.intro @ld9 (And.intro @ld36 (And.intro @ld23 (And.intro @ld37 (And.intro @ld35 (And.intro @ld45 (And.intro @ld80 (And.intro @ld39 (And.intro @fa45_0 (And.intro @fa45_1 (And.intro @fa45_2 (And.intro @fa80_0 (And.intro @fa80_1 (And.intro @fa80_2 (And.intro @fa39_0 (And.intro @fa39_1 (And.intro @fa39_2 (And.intro @fa39_3 (And.intro @fa39_4 (@Nat.add_zero))))))))))))))))))))))) := And.intro @ld3 (And.intro @ld2 (And.intro @ld4 (And.intro @ld9 (And.intro @ld36 (And.intro @ld23 (And.intro @ld37 (And.intro @ld35 (And.intro @ld45 (And.intro @ld80 (And.intro @ld39 (And.intro @fa45_0 (And.intro @fa45_1 (And.intro @fa45_2 (And.intro @fa80_0 (And.intro @fa80_1 (And.intro @fa80_2 (And.intro @fa39_0 (And.intro @fa39_1 (And.intro @fa39_2 (And.intro @fa39_3 (And.intro @fa39_4 (@Nat.add_zero))))))))))))))))))))))
/-- Columns that are given cells: each is one, comes once, and takes its cell. -/
def updOk (C : List ColD) : List Int → List Int → List CellD → Bool
  | _, [], _ => true
  | _, _ :: _, [] => false
  | seen, x :: xs, t :: ts => (decide (0 ≤ x) && decide (x < C.length)) && (!seen.contains x && ((match C[x.toNat]? with
    | some c => fitC c t
    | none => false) && updOk C (seen ++ [x]) xs ts))
theorem f58_loop {β : Type} {k : Nat} {Q : β → Prop} {h0 : AH} {b3 : Nat} {cv rv pv iv tv : Value} {kd : Int} {C : List ColD} {cols : List Int} {to : List CellD} (CV : Cols h0 cv C) (hC : C.length ≤ 9223372036854775807) (I : IntsZ h0 iv cols) (T : Cells h0 tv to)
    (hcl : cols.length ≤ 2 ^ 30) (hct : cols.length ≤ to.length) (hto : ∀ x ∈ to, cellR x) (hk1 : cols.length < k) {ke0 : Value → Value → Value → Value → Value → Value → AH → Option β} {kr : Value → AH → Option β} (n : Nat) :
    ∀ {i j : Nat} {h : AH}, i + n = cols.length → n < j → Stt Try.prog h0.n h0 h [(b3, .cells (chrow kd rv pv iv tv) 39 true)] [] →
      (updOk C (cols.take i) (cols.drop i) (to.drop i) = true → ∀ y1 y2 y3 y4 y5 y6 h', Grow h0 h' → Tl (ke0 y1 y2 y3 y4 y5 y6 h') Q) → (updOk C (cols.take i) (cols.drop i) (to.drop i) = false → ∀ e h', e ≠ 0 → Grow h0 h' → Tl (kr (.int .i64 e) h') Q) →
      Tl (F58_lrlr (eInv env (k + 10)) (k + 10) j cv (.pointer (some ⟨b3, 0, none⟩)) iv (.int .i64 cols.length) (.int .i64 i) h ke0 kr) Q := by
  have hv : ∀ h', pLen Try.prog #[22] cv h' = some (.int .i64 C.length) := fun h' => CV.len
  induction n with
  | zero =>
    intro i j h hi hj S hk hr
    obtain ⟨j, rfl⟩ : ∃ q, j = q + 1 := ⟨j - 1, by omega⟩
    simp only [F58_lrlr]
    repeat (first | (with_reducible apply Tl.val; focus (simp (disch := omega) only [coreA, Int.reduceBEq, base_Wq] <;> with_reducible rfl)) | (with_reducible first | refine Tl.brT ?_ | refine Tl.brF ?_ | refine Tl.gd_on ?_ | refine Tl.gd3_on ?_) | ((with_reducible first | apply Tl.brC | apply Tl.gdC | apply Tl.gd3C); focus (simp (disch := omega) only [coreA, Int.reduceBEq, base_Wq] <;> with_reducible rfl)))
    exact hk (by rw [List.drop_eq_nil_of_le (by omega : cols.length ≤ i)]; simp [updOk]) _ _ _ _ _ _ _ S.grow
  | succ n ih =>
    intro i j h hi hj S hk hr
    obtain ⟨j, rfl⟩ : ∃ q, j = q + 1 := ⟨j - 1, by omega⟩
    obtain ⟨x, ex⟩ : ∃ x, cols[i]? = some x := ⟨_, List.getElem?_eq_getElem (by omega)⟩
    obtain ⟨t, et⟩ : ∃ x, to[i]? = some x := ⟨_, List.getElem?_eq_getElem (by omega)⟩
    obtain ⟨b, o, hp, hc⟩ := (I.grow S.grow).at_ ex
    have e : (i : Int) + 1 = ((i + 1 : Nat) : Int) := by omega
    have c3 : h.cell b3 3 = some iv := S.cell 0 rfl rfl
    have c4 : h.cell b3 4 = some tv := S.cell 0 rfl rfl
    rw [drop_at ex, drop_at et, updOk] at hk hr
    simp only [F58_lrlr, G58_4]
    by_cases q0 : 0 ≤ x
    · by_cases q1 : x < C.length
      · rw [decide_eq_true q0, decide_eq_true q1, Bool.true_and, Bool.true_and] at hk hr
        obtain ⟨c, ec⟩ : ∃ y, C[x.toNat]? = some y := ⟨_, List.getElem?_eq_getElem (by omega)⟩
        rw [ec] at hk hr
        obtain ⟨sv, hsv, hZ, _⟩ := SlZ.take (show SlZ Try.prog h iv 1 (irows cols) from I.grow S.grow) u36 sz3 (k := .i64) (i := i) (by rw [irows_len]; omega)
        have hZ : IntsZ h sv (cols.take i) := by unfold IntsZ irows at *; rw [List.map_take]; exact hZ
        have hcn := f76e (k := k + 8) hZ x (by simp; omega) (by simp; omega)
        cases q2 : (cols.take i).contains x with
        | true =>
          rw [q2] at hcn
          rw [q2] at hr
          repeat (first | (with_reducible apply Tl.val; focus (simp (disch := omega) only [coreA, Int.reduceBEq, base_Wq, hp, hc, hv, c3, hsv, hcn] <;> with_reducible rfl)) | (with_reducible first | refine Tl.brT ?_ | refine Tl.brF ?_ | refine Tl.gd_on ?_ | refine Tl.gd3_on ?_) | ((with_reducible first | apply Tl.brC | apply Tl.gdC | apply Tl.gd3C); focus (simp (disch := omega) only [coreA, Int.reduceBEq, base_Wq, hp, hc, hv, c3, hsv, hcn] <;> with_reducible rfl)))
          exact hr rfl _ _ (by omega) S.grow
        | false =>
          rw [q2] at hcn
          rw [q2, Bool.not_false, Bool.true_and] at hk hr
          obtain ⟨b2, o2, hp2, hrow2⟩ := (T.grow S.grow).at_ et
          repeat (first | (with_reducible apply Tl.val; focus (simp (disch := omega) only [coreA, Int.reduceBEq, base_Wq, hp, hc, hv, c3, hsv, hcn, c4, hp2, hrow2] <;> with_reducible rfl)) | (with_reducible first | refine Tl.brT ?_ | refine Tl.brF ?_ | refine Tl.gd_on ?_ | refine Tl.gd3_on ?_) | ((with_reducible first | apply Tl.brC | apply Tl.gdC | apply Tl.gd3C); focus (simp (disch := omega) only [coreA, Int.reduceBEq, base_Wq, hp, hc, hv, c3, hsv, hcn, c4, hp2, hrow2] <;> with_reducible rfl)))
          refine Tl.call' S (f77c (k := k + 9) t (hto t (List.mem_of_getElem? et)) h) fun h1 S1 g1 => ?_
          have c4 : h1.cell b3 4 = some tv := S1.cell 0 rfl rfl
          have hrow2 := g1.row hrow2
          unfold fitC at hk hr
          cases q3 : cellOk t with
          | false =>
            rw [q3] at hr
            simp only [Bool.false_eq_true, if_false]
            repeat (first | (with_reducible apply Tl.val; focus (simp (disch := omega) only [coreA, Int.reduceBEq, base_Wq] <;> with_reducible rfl)) | (with_reducible first | refine Tl.brT ?_ | refine Tl.brF ?_ | refine Tl.gd_on ?_ | refine Tl.gd3_on ?_) | ((with_reducible first | apply Tl.brC | apply Tl.gdC | apply Tl.gd3C); focus (simp (disch := omega) only [coreA, Int.reduceBEq, base_Wq] <;> with_reducible rfl)))
            exact hr rfl _ _ (by omega) S1.grow
          | true =>
            rw [q3] at hk hr
            simp only [Bool.true_and] at hk hr
            simp only [if_true]
            repeat (first | (with_reducible apply Tl.val; focus (simp (disch := omega) only [coreA, Int.reduceBEq, base_Wq, c4, hp2, hrow2] <;> with_reducible rfl)) | (with_reducible first | refine Tl.brT ?_ | refine Tl.brF ?_ | refine Tl.gd_on ?_ | refine Tl.gd3_on ?_) | ((with_reducible first | apply Tl.brC | apply Tl.gdC | apply Tl.gd3C); focus (simp (disch := omega) only [coreA, Int.reduceBEq, base_Wq, c4, hp2, hrow2] <;> with_reducible rfl)))
            refine Tl.alloc' S1 ze45 (by rfl) fun b8 h2 S2 g2 => ?_
            refine Tl.store' S2 0 rfl sz45 rfl rfl (by simp [Value.cells]) fun h3 S3 k3 => ?_
            have S3 : Stt Try.prog h0.n h0 h3 [(b8, .cells (crow t) 45 true), (b3, .cells (chrow kd rv pv iv tv) 39 true)] [] := S3
            have d0 : h3.cell b8 0 = some (.int .i64 t.k) := S3.cell 0 rfl rfl
            obtain ⟨b9, o9, hp9, hrow9⟩ := (CV.grow S3.grow).at_ ec
            rw [show ((x.toNat : Nat) : Int) = x by omega] at hp9
            have k1 : h3.cell b9 (o9 + 1) = some (.int .i64 c.kind) := Ev.cell_of_row (j := 1) hrow9 (by omega)
            have k2 : h3.cell b9 (o9 + 2) = some (.bool c.null) := Ev.cell_of_row (j := 2) hrow9 (by omega)
            have next : updOk C (cols.take i ++ [x]) (cols.drop (i + 1)) (to.drop (i + 1)) = updOk C (cols.take (i + 1)) (cols.drop (i + 1)) (to.drop (i + 1)) := by rw [List.take_add_one, ex]; rfl
            rw [next] at hk hr
            simp only [G58_12]
            by_cases q4 : t.k = c.kind
            · rw [decide_eq_true q4, Bool.true_or, Bool.true_and] at hk hr
              repeat (first | (with_reducible apply Tl.val; focus (simp (disch := omega) only [coreA, Int.reduceBEq, base_Wq, d0, hp9, k1, k2] <;> with_reducible rfl)) | (with_reducible first | refine Tl.brT ?_ | refine Tl.brF ?_ | refine Tl.gd_on ?_ | refine Tl.gd3_on ?_) | ((with_reducible first | apply Tl.brC | apply Tl.gdC | apply Tl.gd3C); focus (simp (disch := omega) only [coreA, Int.reduceBEq, base_Wq, d0, hp9, k1, k2] <;> with_reducible rfl)))
              rw [e]
              exact ih (by omega) (by omega) S3.drop hk hr
            · rw [decide_eq_false q4, Bool.false_or] at hk hr
              by_cases q5 : t.k = 0
              · rw [decide_eq_true q5, Bool.true_and] at hk hr
                cases q6 : c.null with
                | true =>
                  rw [q6] at k2
                  rw [q6, Bool.true_and] at hk hr
                  repeat (first | (with_reducible apply Tl.val; focus (simp (disch := omega) only [coreA, Int.reduceBEq, base_Wq, d0, hp9, k1, k2] <;> with_reducible rfl)) | (with_reducible first | refine Tl.brT ?_ | refine Tl.brF ?_ | refine Tl.gd_on ?_ | refine Tl.gd3_on ?_) | ((with_reducible first | apply Tl.brC | apply Tl.gdC | apply Tl.gd3C); focus (simp (disch := omega) only [coreA, Int.reduceBEq, base_Wq, d0, hp9, k1, k2] <;> with_reducible rfl)))
                  rw [e]
                  exact ih (by omega) (by omega) S3.drop hk hr
                | false =>
                  rw [q6] at k2
                  rw [q6] at hr
                  repeat (first | (with_reducible apply Tl.val; focus (simp (disch := omega) only [coreA, Int.reduceBEq, base_Wq, d0, hp9, k1, k2] <;> with_reducible rfl)) | (with_reducible first | refine Tl.brT ?_ | refine Tl.brF ?_ | refine Tl.gd_on ?_ | refine Tl.gd3_on ?_) | ((with_reducible first | apply Tl.brC | apply Tl.gdC | apply Tl.gd3C); focus (simp (disch := omega) only [coreA, Int.reduceBEq, base_Wq, d0, hp9, k1, k2] <;> with_reducible rfl)))
                  exact hr rfl _ _ (by omega) S3.grow
              · rw [decide_eq_false q5] at hr
                repeat (first | (with_reducible apply Tl.val; focus (simp (disch := omega) only [coreA, Int.reduceBEq, base_Wq, d0, hp9, k1, k2] <;> with_reducible rfl)) | (with_reducible first | refine Tl.brT ?_ | refine Tl.brF ?_ | refine Tl.gd_on ?_ | refine Tl.gd3_on ?_) | ((with_reducible first | apply Tl.brC | apply Tl.gdC | apply Tl.gd3C); focus (simp (disch := omega) only [coreA, Int.reduceBEq, base_Wq, d0, hp9, k1, k2] <;> with_reducible rfl)))
                exact hr rfl _ _ (by omega) S3.grow
      · rw [decide_eq_false q1, Bool.and_false] at hr
        repeat (first | (with_reducible apply Tl.val; focus (simp (disch := omega) only [coreA, Int.reduceBEq, base_Wq, hp, hc, hv] <;> with_reducible rfl)) | (with_reducible first | refine Tl.brT ?_ | refine Tl.brF ?_ | refine Tl.gd_on ?_ | refine Tl.gd3_on ?_) | ((with_reducible first | apply Tl.brC | apply Tl.gdC | apply Tl.gd3C); focus (simp (disch := omega) only [coreA, Int.reduceBEq, base_Wq, hp, hc, hv] <;> with_reducible rfl)))
        exact hr rfl _ _ (by omega) S.grow
    · rw [decide_eq_false q0] at hr
      repeat (first | (with_reducible apply Tl.val; focus (simp (disch := omega) only [coreA, Int.reduceBEq, base_Wq, hp, hc, hv] <;> with_reducible rfl)) | (with_reducible first | refine Tl.brT ?_ | refine Tl.brF ?_ | refine Tl.gd_on ?_ | refine Tl.gd3_on ?_) | ((with_reducible first | apply Tl.brC | apply Tl.gdC | apply Tl.gd3C); focus (simp (disch := omega) only [coreA, Int.reduceBEq, base_Wq, hp, hc, hv] <;> with_reducible rfl)))
      exact hr rfl _ _ (by omega) S.grow
theorem f58c {k : Nat} {h : AH} {cv rv pv iv tv : Value} {C : List ColD} {c : ChangeD} (CV : Cols h cv C) (hC : C.length ≤ 9223372036854775807) (F : ChangeF h rv pv iv tv c) (hcl : c.cols.length ≤ 2 ^ 30) (hct : c.cols.length ≤ c.to.length) (hto : ∀ x ∈ c.to, cellR x) (hk1 : c.cols.length < k) :
    Tl (eInv env (k + 11) (.func 58) #[] #[cv, .agg (chrow c.kind rv pv iv tv).toArray] h) fun r => (∃ e : Int, r.1 = .int .i64 e ∧ (e = 0 ↔ updOk C [] c.cols c.to = true)) ∧ Grow h r.2 := by
  rw [F58_call]
  unfold F58
  refine Tl.box' (Stt.init h) rfl (by rw [sz39]; rfl) fun b3 h1 S1 g1 => ?_
  have S1 : Stt Try.prog h.n h h1 [(b3, .cells (chrow c.kind rv pv iv tv) 39 true)] [] := S1
  have c3 : h1.cell b3 3 = some iv := S1.cell 0 rfl rfl
  have hv : ∀ h', pLen Try.prog #[36] iv h' = some (.int .i64 c.cols.length) := fun h' => F.2.2.1.len
  repeat (first | (with_reducible apply Tl.val; focus (simp (disch := omega) only [coreA, Int.reduceBEq, base_Wq, c3, hv] <;> with_reducible rfl)) | (with_reducible first | refine Tl.brT ?_ | refine Tl.brF ?_ | refine Tl.gd_on ?_ | refine Tl.gd3_on ?_) | ((with_reducible first | apply Tl.brC | apply Tl.gdC | apply Tl.gd3C); focus (simp (disch := omega) only [coreA, Int.reduceBEq, base_Wq, c3, hv] <;> with_reducible rfl)))
  refine f58_loop CV hC F.2.2.1 F.2.2.2 hcl hct hto hk1 c.cols.length (i := 0) (by omega) (by omega) S1 (fun q y1 y2 y3 y4 y5 y6 h' g => ?_) fun q e h' he g => ?_
  · rw [List.take_zero, List.drop_zero, List.drop_zero] at q
    exact ⟨_, rfl, ⟨0, rfl, by simp [q]⟩, g⟩
  · rw [List.take_zero, List.drop_zero, List.drop_zero] at q
    exact ⟨_, rfl, ⟨e, rfl, by simp [q, he]⟩, g⟩
/-- A change of which Check can tell. -/
structure ChC (c : ChangeD) : Prop where
  rows : c.rows.length ≤ 100000
  row : ∀ r ∈ c.rows, r.length ≤ 9223372036854775807 ∧ ∀ x ∈ r, cellR x
  pred : c.pred.length ≤ 2 ^ 40
  parts : ∀ nd ∈ c.pred, nd.parts.length ≤ 900 ∧ cellR nd.val
  cols : c.cols.length ≤ 100000
  to : c.to.length ≤ 2 ^ 40
  cell : ∀ x ∈ c.to, cellR x
/-- A change may be, if so many rows came ahead of it. -/
def changeOk (C : List ColD) (c : ChangeD) (n : Nat) : Bool := bareB c && (predOk C c.pred && ((c.rows.all (rowOk C) && decide (c.rows.length = 0 ∨ n + c.rows.length ≤ 256)) && updOk C [] c.cols c.to))
theorem f34_loop {β : Type} {k : Nat} {Q : β → Prop} {h0 : AH} {b4 b6 n0 : Nat} {cv rv pv iv tv : Value} {kd : Int} {C : List ColD} {rows : List (List CellD)} (CV : Cols h0 cv C) (hC : C.length ≤ 9223372036854775807) (R : Rows h0 rv rows) (hrl : rows.length ≤ 100000) (hn0 : n0 ≤ 100000)
    (hr : ∀ r ∈ rows, r.length ≤ 9223372036854775807 ∧ ∀ x ∈ r, cellR x) {L : List (Nat × AO)} {O : List OS} {nb : Nat} {hb : AH} (gb : ∀ h' L' O', Stt Try.prog nb hb h' L' O' → Grow h0 h')
    {ke0 : Value → Value → Value → Value → Value → Value → Value → AH → Option β} {kr : Value → AH → Option β} (n : Nat) :
    ∀ {i j : Nat} {h : AH}, i + n = rows.length → n < j → (i = 0 ∨ n0 + i ≤ 256) → Stt Try.prog nb hb h ((b4, .cells (chrow kd rv pv iv tv) 39 true) :: (b6, .cells [.int .i64 ((n0 + i : Nat) : Int)] 3 true) :: L) O →
      ((rows.drop i).all (rowOk C) = true → (rows.length = i ∨ n0 + rows.length ≤ 256) → ∀ y1 y2 y3 y4 h', Stt Try.prog nb hb h' ((b4, .cells (chrow kd rv pv iv tv) 39 true) :: (b6, .cells [.int .i64 ((n0 + rows.length : Nat) : Int)] 3 true) :: L) O →
        Tl (ke0 cv (.pointer (some ⟨b6, 0, none⟩)) (.pointer (some ⟨b4, 0, none⟩)) y1 y2 y3 y4 h') Q) →
      (¬ ((rows.drop i).all (rowOk C) = true ∧ (rows.length = i ∨ n0 + rows.length ≤ 256)) → ∀ e h' w, e ≠ 0 → Stt Try.prog nb hb h' ((b4, .cells (chrow kd rv pv iv tv) 39 true) :: (b6, .cells [w] 3 true) :: L) O → Tl (kr (.int .i64 e) h') Q) →
      Tl (F34_lrlrrr (eInv env (k + 300)) (k + 300) j cv (.pointer (some ⟨b6, 0, none⟩)) (.pointer (some ⟨b4, 0, none⟩)) rv (.int .i64 rows.length) (.int .i64 i) h ke0 kr) Q := by
  induction n with
  | zero =>
    intro i j h hi hj hc0 S hk hf
    obtain ⟨j, rfl⟩ : ∃ q, j = q + 1 := ⟨j - 1, by omega⟩
    obtain rfl : i = rows.length := by omega
    simp only [F34_lrlrrr]
    repeat (first | (with_reducible apply Tl.val; focus (simp (disch := omega) only [coreA, Int.reduceBEq, base_Wq] <;> with_reducible rfl)) | (with_reducible first | refine Tl.brT ?_ | refine Tl.brF ?_ | refine Tl.gd_on ?_ | refine Tl.gd3_on ?_) | ((with_reducible first | apply Tl.brC | apply Tl.gdC | apply Tl.gd3C); focus (simp (disch := omega) only [coreA, Int.reduceBEq, base_Wq] <;> with_reducible rfl)))
    exact hk (by rw [List.drop_eq_nil_of_le (Nat.le_refl _)]; rfl) (.inl rfl) _ _ _ _ _ S
  | succ n ih =>
    intro i j h hi hj hc0 S hk hf
    obtain ⟨j, rfl⟩ : ∃ q, j = q + 1 := ⟨j - 1, by omega⟩
    obtain ⟨x, ex⟩ : ∃ x, rows[i]? = some x := ⟨_, List.getElem?_eq_getElem (by omega)⟩
    have g := gb _ _ _ S
    obtain ⟨b, o, w, hp, hc, X⟩ := (R.grow g).at_ ex
    obtain ⟨m1, m2⟩ := hr x (List.mem_of_getElem? ex)
    have e : (i : Int) + 1 = ((i + 1 : Nat) : Int) := by omega
    rw [drop_at ex, List.all_cons] at hk hf
    simp only [F34_lrlrrr]
    repeat (first | (with_reducible apply Tl.val; focus (simp (disch := omega) only [coreA, Int.reduceBEq, base_Wq, hp, hc] <;> with_reducible rfl)) | (with_reducible first | refine Tl.brT ?_ | refine Tl.brF ?_ | refine Tl.gd_on ?_ | refine Tl.gd3_on ?_) | ((with_reducible first | apply Tl.brC | apply Tl.gdC | apply Tl.gd3C); focus (simp (disch := omega) only [coreA, Int.reduceBEq, base_Wq, hp, hc] <;> with_reducible rfl)))
    refine Tl.bind (f57c (k := k) (CV.grow g) X hC m1 m2) ?_
    rintro ⟨r, h1⟩ ⟨⟨z, er, hz⟩, g1⟩
    simp only at er g1
    subst er
    have S1 := S.call g1
    by_cases q : z = 0
    · rw [hz.1 q, Bool.true_and] at hk hf
      have c6 : h1.cell b6 0 = some (.int .i64 ((n0 + i : Nat) : Int)) := S1.cell 1 rfl rfl
      have nc : pNilCheck (.pointer (some ⟨b6, 0, none⟩)) = some (.pointer (some ⟨b6, 0, none⟩)) := rfl
      repeat (first | (with_reducible apply Tl.val; focus (simp (disch := omega) only [coreA, Int.reduceBEq, base_Wq, nc, c6] <;> with_reducible rfl)) | (with_reducible first | refine Tl.brT ?_ | refine Tl.brF ?_ | refine Tl.gd_on ?_ | refine Tl.gd3_on ?_) | ((with_reducible first | apply Tl.brC | apply Tl.gdC | apply Tl.gd3C); focus (simp (disch := omega) only [coreA, Int.reduceBEq, base_Wq, nc, c6] <;> with_reducible rfl)))
      refine Tl.store' S1 1 rfl sz3 rfl rfl (by simp [Value.cells]) fun h2 S2 k2 => ?_
      have S2 : Stt Try.prog nb hb h2 ((b4, .cells (chrow kd rv pv iv tv) 39 true) :: (b6, .cells [.int .i64 (((n0 + i : Nat) : Int) + 1)] 3 true) :: L) O := S2
      have c6 : h2.cell b6 0 = some (.int .i64 (((n0 + i : Nat) : Int) + 1)) := S2.cell 1 rfl rfl
      by_cases q2 : n0 + i + 1 ≤ 256
      · repeat (first | (with_reducible apply Tl.val; focus (simp (disch := omega) only [coreA, Int.reduceBEq, base_Wq, nc, c6] <;> with_reducible rfl)) | (with_reducible first | refine Tl.brT ?_ | refine Tl.brF ?_ | refine Tl.gd_on ?_ | refine Tl.gd3_on ?_) | ((with_reducible first | apply Tl.brC | apply Tl.gdC | apply Tl.gd3C); focus (simp (disch := omega) only [coreA, Int.reduceBEq, base_Wq, nc, c6] <;> with_reducible rfl)))
        rw [e]
        rw [show ((n0 + i : Nat) : Int) + 1 = ((n0 + (i + 1) : Nat) : Int) by omega] at S2
        refine ih (by omega) (by omega) (.inr (by omega)) S2 (fun a1 a2 => hk a1 ?_) fun a => hf ?_
        · rcases a2 with a2 | a2
          · right; omega
          · exact .inr a2
        · rintro ⟨a1, a2⟩
          refine a ⟨a1, ?_⟩
          rcases a2 with a2 | a2
          · omega
          · exact .inr a2
      · repeat (first | (with_reducible apply Tl.val; focus (simp (disch := omega) only [coreA, Int.reduceBEq, base_Wq, nc, c6] <;> with_reducible rfl)) | (with_reducible first | refine Tl.brT ?_ | refine Tl.brF ?_ | refine Tl.gd_on ?_ | refine Tl.gd3_on ?_) | ((with_reducible first | apply Tl.brC | apply Tl.gdC | apply Tl.gd3C); focus (simp (disch := omega) only [coreA, Int.reduceBEq, base_Wq, nc, c6] <;> with_reducible rfl)))
        exact hf (by rintro ⟨_, a2⟩; omega) _ _ _ (by omega) S2
    · have : rowOk C x = false := by
        cases hx : rowOk C x with
        | false => rfl
        | true => exact absurd (hz.2 hx) q
      rw [this, Bool.false_and] at hf
      repeat (first | (with_reducible apply Tl.val; focus (simp (disch := omega) only [coreA, Int.reduceBEq, base_Wq] <;> with_reducible rfl)) | (with_reducible first | refine Tl.brT ?_ | refine Tl.brF ?_ | refine Tl.gd_on ?_ | refine Tl.gd3_on ?_) | ((with_reducible first | apply Tl.brC | apply Tl.gdC | apply Tl.gd3C); focus (simp (disch := omega) only [coreA, Int.reduceBEq, base_Wq] <;> with_reducible rfl)))
      exact hf (fun a => by cases a.1) _ _ _ q S1
end Go.Proofs.Ytjmfokglckaneaa.Sh
