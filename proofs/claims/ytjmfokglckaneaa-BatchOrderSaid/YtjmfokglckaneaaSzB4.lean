/- 'BatchOrder' comes to true. -/
import Derived.Test.YtjmfokglckaneaaSzB3
set_option linter.unusedVariables false
set_option linter.unusedSimpArgs false
set_option maxRecDepth 100000
namespace Go.Proofs.Ytjmfokglckaneaa.Sh
open Go Go.RowKit Go.Proofs.Ev
theorem base_B4 : type_of% (And.intro @ld3 (And.intro @ld36 (And.intro @ld35 (And.intro @ld37 (And.intro @ld45 (And.intro @ld23 (And.intro @ld39 (And.intro @fa39_0 (And.intro @fa39_1 (And.intro @fa39_2 (And.intro @fa39_3 (And.intro @fa39_4 (And.intro @Nat.add_zero (And.intro @ex2_0 (@ex2_1))))))))))))))) := And.intro @ld3 (And.intro @ld36 (And.intro @ld35 (And.intro @ld37 (And.intro @ld45 (And.intro @ld23 (And.intro @ld39 (And.intro @fa39_0 (And.intro @fa39_1 (And.intro @fa39_2 (And.intro @fa39_3 (And.intro @fa39_4 (And.intro @Nat.add_zero (And.intro @ex2_0 (@ex2_1))))))))))))))
theorem bsCg (kd : Int) (a1 a2 a3 a4 : Option Addr) (m1 m2 m3 m4 c1 c2 c3 c4 : Nat) (h : AH) : pBuildSlice Try.prog 24 1 #[(0, .agg (chrow kd (.slice a1 m1 c1) (.slice a2 m2 c2) (.slice a3 m3 c3) (.slice a4 m4 c4)).toArray)] h =
    some (.slice (some ⟨h.n, 0, none⟩) 1 1, h.alloc (.cells (chrow kd (.slice a1 m1 c1) (.slice a2 m2 c2) (.slice a3 m3 c3) (.slice a4 m4 c4)) 39 true)) := by kernel_rfl
/-- A light change. -/
structure LightC (c : ChangeD) : Prop where
  rows : c.rows.length ≤ 40
  row : ∀ r ∈ c.rows, r.length ≤ 20
  pred : c.pred.length ≤ 20
  parts : ∀ nd ∈ c.pred, nd.parts.length ≤ 20
  cols : c.cols.length ≤ 20
  to : c.to.length ≤ 20
theorem rows_light {l : List (List CellD)} {m : Int} (h : lightRs l m = true) : (l.length : Int) ≤ m ∧ ∀ r ∈ l, r.length ≤ 20 := by
  unfold lightRs at h
  rw [Bool.and_eq_true, List.all_eq_true] at h
  refine ⟨of_decide_eq_true h.2, fun r hr => ?_⟩
  have := h.1 r hr
  unfold lightR at this
  rw [Bool.and_eq_true] at this
  exact of_decide_eq_true this.2
theorem light_ch {c : ChangeD} (h : lightCh 40 c = true) : LightC c := by
  unfold lightCh at h
  rw [Bool.and_eq_true, Bool.and_eq_true, Bool.and_eq_true] at h
  obtain ⟨h1, h2, h3, h4⟩ := h
  obtain ⟨r1, r2⟩ := rows_light h1
  unfold lightP at h2
  rw [Bool.and_eq_true, List.all_eq_true] at h2
  unfold lightR at h4
  rw [Bool.and_eq_true] at h4
  refine ⟨by omega, r2, of_decide_eq_true h2.2, fun nd hnd => ?_, of_decide_eq_true h3, of_decide_eq_true h4.2⟩
  have := h2.1 nd hnd
  unfold lightN at this
  rw [Bool.and_eq_true] at this
  exact of_decide_eq_true this.1
theorem light_all {cols : List ColD} {rows : List (List CellD)} {l : List ChangeD} (h : lightL cols rows l = true) : (rows.length ≤ 60 ∧ ∀ r ∈ rows, r.length ≤ 20) ∧ l.length ≤ 18 ∧ ∀ c ∈ l, LightC c := by
  unfold lightL lightB at h
  rw [Bool.and_eq_true, Bool.and_eq_true, Bool.and_eq_true, List.all_eq_true] at h
  obtain ⟨_, h2, h3, h4⟩ := h
  obtain ⟨r1, r2⟩ := rows_light h2
  exact ⟨⟨by omega, r2⟩, of_decide_eq_true h4, fun c hc => light_ch (h3 c hc)⟩
theorem LightC.ok {c : ChangeD} (L : LightC c) : ChOk c := ⟨by have := L.rows; omega, fun r hr => by have := L.row r hr; omega, by have := L.pred; omega, fun nd hnd => by have := L.parts nd hnd; omega, by have := L.cols; omega, by have := L.to; omega⟩
/-- The numbers of a change's cells are words. -/
structure ChCell (c : ChangeD) : Prop where
  row : ∀ r ∈ c.rows, ∀ x ∈ r, cellR x
  pred : ∀ nd ∈ c.pred, cellR nd.val
  to : ∀ x ∈ c.to, cellR x
theorem LightC.chc {c : ChangeD} (L : LightC c) (W : ChCell c) : ChC c :=
  ⟨by have := L.rows; omega, fun r hr => ⟨by have := L.row r hr; omega, W.row r hr⟩, by have := L.pred; omega, fun nd hnd => ⟨by have := L.parts nd hnd; omega, W.pred nd hnd⟩, by have := L.cols; omega, by have := L.to; omega, W.to⟩
theorem one_len {rows : List (List CellD)} {c : ChangeD} : (oneR rows c).length ≤ rows.length + c.rows.length := by
  unfold oneR
  split
  · simp
  · split
    · have := List.length_filter_le (fun r => !meant c r) rows; omega
    · split <;> simp
theorem mem_known {n0 : Nat} {h0 h : AH} {L : List (Nat × AO)} {O : List OS} {b : Nat} {o : AO} (S : Stt Try.prog n0 h0 h L O) (hm : (b, o) ∈ L) : h.get b = some o := Mem.iff.1 S.sta.mem _ hm
theorem rows_drop {h : AH} {v' : Value} {vs : List Value} {l : List (List CellD)} {i : Nat} (A : All2 (Cells h) vs l) (S : SlV Try.prog h v' 1 ((vs.map fun v => [v]).drop i)) : Rows h v' (l.drop i) := by
  have key : ∀ (i : Nat) (vs : List Value) (l : List (List CellD)), All2 (Cells h) vs l → All2 (Cells h) (vs.drop i) (l.drop i) := by
    intro i
    induction i with
    | zero => intro vs l A; exact A
    | succ i ih =>
      intro vs l A
      match vs, l, A with
      | [], [], _ => trivial
      | a :: vs, b :: l, A => exact ih vs l A.2
  exact ⟨vs.drop i, by rw [List.map_drop]; exact S.z, key i vs l A⟩
theorem hits_eq {c : ChangeD} (rows : List (List CellD)) (hb : bareB c = true) (k1 : ¬ c.kind = 1) : (rows.filter (hitB c)).length = oneN rows c := by
  unfold oneN
  rw [if_neg k1, if_pos (by rcases bare_kind hb with h | h | h; exact absurd h k1; exact .inl h; exact .inr h)]
  have : hitB c = meant c := funext fun r => by simp [hitB, k1]
  rw [this]; rfl
theorem stays_len {c : ChangeD} (rows : List (List CellD)) (hb : bareB c = true) (k1 : ¬ c.kind = 1) : (rows.filter (staysB c)).length = (oneR rows c).length := by
  rw [one_eq rows hb, if_neg k1, List.append_nil, List.length_map]
theorem stays_all {c : ChangeD} (rows : List (List CellD)) (k1 : c.kind = 1) : (rows.filter (staysB c)).length = rows.length := by
  have : rows.filter (staysB c) = rows := List.filter_eq_self.2 fun r _ => by simp [staysB, hitB, k1]
  rw [this]
theorem f4 {k : Nat} {h : AH} {cv rv v1 v2 v3 v4 : Value} {cols : List ColD} {rows : List (List CellD)} {c : ChangeD} (C : Cols h cv cols) (R : Rows h rv rows) (F : ChangeF h v1 v2 v3 v4 c)
    (hcl : cols.length ≤ 9223372036854775807 ∧ cols.length < k) (hrl : rows.length ≤ 9223372036854775807 ∧ rows.length < k) (hr : ∀ r ∈ rows, r.length ≤ 9223372036854775807 ∧ r.length < k) (hs : ChS 9223372036854775808 c ∧ ChS k c) (W : ChCell c) :
    Tl (F4 (eInv env (k + 110000)) (k + 110000) cv rv (.agg (chrow c.kind v1 v2 v3 v4).toArray) h) fun r => r.1 = .bool true := by
  unfold F4
  have done : ∀ h' : AH, Tl (some (Value.bool true, h')) fun r => r.1 = Value.bool true := fun h' => ⟨_, rfl, rfl⟩
  obtain ⟨⟨a1, m1, c1, rfl⟩, ⟨a2, m2, c2, rfl⟩, ⟨a3, m3, c3, rfl⟩, ⟨a4, m4, c4, rfl⟩⟩ := F.form
  refine Tl.box' (Stt.init h) rfl (by rw [sz39]; rfl) fun b5 h1 S1 g1 => ?_
  generalize hcr : chrow c.kind (.slice a1 m1 c1) (.slice a2 m2 c2) (.slice a3 m3 c3) (.slice a4 m4 c4) = cr at *
  have S1 : Stt Try.prog h.n h h1 [(b5, .cells cr 39 true)] [] := S1
  have hlv := lives_call (k := k + 109999) (h := h1)
  have hcl5 : cr.length = 5 := by rw [← hcr]; rfl
  have r5 : h1.row b5 0 5 = some cr := S1.row 0 rfl hcl5.symm
  have bs : ∀ h, pBuildSlice Try.prog 24 1 #[(0, .agg cr.toArray)] h = some (.slice (some ⟨h.n, 0, none⟩) 1 1, h.alloc (.cells cr 39 true)) := fun h => by rw [← hcr]; exact bsCg _ _ _ _ _ _ _ _ _ _ _ _ _ h
  simp only [G4_3]
  repeat (first | (with_reducible apply Tl.val; focus (simp (disch := omega) only [coreA, Int.reduceBEq, base_B4, hlv, r5, bs] <;> with_reducible rfl)) | (with_reducible first | refine Tl.brT ?_ | refine Tl.brF ?_ | refine Tl.gd_on ?_ | refine Tl.gd3_on ?_) | ((with_reducible first | apply Tl.brC | apply Tl.gdC | apply Tl.gd3C); focus (simp (disch := omega) only [coreA, Int.reduceBEq, base_B4, hlv, r5, bs] <;> with_reducible rfl)))
  have S2 := S1.alloc (.cells cr 39 true)
  generalize hh2 : h1.alloc (.cells cr 39 true) = h2 at S2 ⊢
  have B : Changes h2 (.slice (some ⟨h1.n, 0, none⟩) 1 1) [c] := ⟨[cr], (S2.lit 0 rfl hcl5).z, ⟨_, _, _, _, hcr.symm, F.grow S2.grow⟩, trivial⟩
  have p1 := f9e (k := k + 109996) (C.grow S2.grow) (R.grow S2.grow) B ⟨hcl.1, by omega⟩ ⟨hrl.1, by omega⟩ (fun r hx => ⟨(hr r hx).1, by have := (hr r hx).2; omega⟩) ⟨by simp, by rw [List.length_singleton]; omega⟩ (fun d hd => by
    rw [List.mem_singleton] at hd
    subst hd
    exact ⟨hs.1, ⟨by have := hs.2.rows; omega, fun r hr => by have := hs.2.row r hr; omega, by have := hs.2.pred; omega, by have := hs.2.cols; omega, by have := hs.2.to; omega⟩⟩)
  cases q1 : lightL cols rows [c] with
  | false =>
    rw [q1] at p1
    repeat (first | (with_reducible apply Tl.val; focus (simp (disch := omega) only [coreA, Int.reduceBEq, base_B4, p1] <;> with_reducible rfl)) | (with_reducible first | refine Tl.brT ?_ | refine Tl.brF ?_ | refine Tl.gd_on ?_ | refine Tl.gd3_on ?_) | ((with_reducible first | apply Tl.brC | apply Tl.gdC | apply Tl.gd3C); focus (simp (disch := omega) only [coreA, Int.reduceBEq, base_B4, p1] <;> with_reducible rfl)))
    exact done _
  | true =>
  rw [q1] at p1
  obtain ⟨⟨rl, rls⟩, _, lc⟩ := light_all q1
  have LC := lc c (List.mem_singleton.2 rfl)
  have ok := LC.ok
  have r5 : h2.row b5 0 5 = some cr := S2.row 1 rfl hcl5.symm
  repeat (first | (with_reducible apply Tl.val; focus (simp (disch := omega) only [coreA, Int.reduceBEq, base_B4, p1, r5, bs] <;> with_reducible rfl)) | (with_reducible first | refine Tl.brT ?_ | refine Tl.brF ?_ | refine Tl.gd_on ?_ | refine Tl.gd3_on ?_) | ((with_reducible first | apply Tl.brC | apply Tl.gdC | apply Tl.gd3C); focus (simp (disch := omega) only [coreA, Int.reduceBEq, base_B4, p1, r5, bs] <;> with_reducible rfl)))
  have S3 := S2.alloc (.cells cr 39 true)
  generalize hh3 : h2.alloc (.cells cr 39 true) = h3 at S3 ⊢
  have B3 : Changes h3 (.slice (some ⟨h2.n, 0, none⟩) 1 1) [c] := ⟨[cr], (S3.lit 0 rfl hcl5).z, ⟨_, _, _, _, hcr.symm, F.grow S3.grow⟩, trivial⟩
  refine Tl.bind (f10c (k := k + 108688) (C.grow S3.grow) hcl.1 B3 (by simp) (fun d hd => by
    rw [List.mem_singleton] at hd
    subst hd
    exact LC.chc W) (by omega)) ?_
  rintro ⟨r, h4⟩ ⟨⟨z, er, hz⟩, g4⟩
  simp only at er g4
  subst er
  have S4 := S3.call g4
  by_cases q2 : ¬ z = 0
  · repeat (first | (with_reducible apply Tl.val; focus (simp (disch := omega) only [coreA, Int.reduceBEq, base_B4] <;> with_reducible rfl)) | (with_reducible first | refine Tl.brT ?_ | refine Tl.brF ?_ | refine Tl.gd_on ?_ | refine Tl.gd3_on ?_) | ((with_reducible first | apply Tl.brC | apply Tl.gdC | apply Tl.gd3C); focus (simp (disch := omega) only [coreA, Int.reduceBEq, base_B4] <;> with_reducible rfl)))
    exact done _
  have q2 : z = 0 := Classical.not_not.1 q2
  have hb : bareB c = true := by
    have := hz.1 q2
    unfold batchOk batchGo changeOk at this
    simp only [Bool.and_eq_true] at this
    exact this.2.2.1.1
  repeat (first | (with_reducible apply Tl.val; focus (simp (disch := omega) only [coreA, Int.reduceBEq, base_B4] <;> with_reducible rfl)) | (with_reducible first | refine Tl.brT ?_ | refine Tl.brF ?_ | refine Tl.gd_on ?_ | refine Tl.gd3_on ?_) | ((with_reducible first | apply Tl.brC | apply Tl.gdC | apply Tl.gd3C); focus (simp (disch := omega) only [coreA, Int.reduceBEq, base_B4] <;> with_reducible rfl)))
  refine Tl.call' S4 (f11c (k := k + 109699) (C.grow S4.grow) (R.grow S4.grow) hcl.1 (by omega) (fun r hx => (hr r hx).1) (by omega)) fun h5 S5 g5 => ?_
  cases q3 : fitRs cols rows with
  | false =>
    repeat (first | (with_reducible apply Tl.val; focus (simp (disch := omega) only [coreA, Int.reduceBEq, base_B4] <;> with_reducible rfl)) | (with_reducible first | refine Tl.brT ?_ | refine Tl.brF ?_ | refine Tl.gd_on ?_ | refine Tl.gd3_on ?_) | ((with_reducible first | apply Tl.brC | apply Tl.gdC | apply Tl.gd3C); focus (simp (disch := omega) only [coreA, Int.reduceBEq, base_B4] <;> with_reducible rfl)))
    exact done _
  | true =>
  repeat (first | (with_reducible apply Tl.val; focus (simp (disch := omega) only [coreA, Int.reduceBEq, base_B4] <;> with_reducible rfl)) | (with_reducible first | refine Tl.brT ?_ | refine Tl.brF ?_ | refine Tl.gd_on ?_ | refine Tl.gd3_on ?_) | ((with_reducible first | apply Tl.brC | apply Tl.gdC | apply Tl.gd3C); focus (simp (disch := omega) only [coreA, Int.reduceBEq, base_B4] <;> with_reducible rfl)))
  have rls' : ∀ r ∈ rows, r.length ≤ 2 ^ 30 := fun r hx => by have := rls r hx; omega
  refine Tl.bind (f15c (k := k + 109998) (R.grow S5.grow) (by omega) rls' (by omega)) ?_
  rintro ⟨w, h6⟩ ⟨rs0, hrs0, T6⟩
  simp only at T6
  have S6 := S5.join T6
  have r5 : h6.row b5 0 5 = some cr := S6.row 2 rfl hcl5.symm
  repeat (first | (with_reducible apply Tl.val; focus (simp (disch := omega) only [coreA, Int.reduceBEq, base_B4, r5] <;> with_reducible rfl)) | (with_reducible first | refine Tl.brT ?_ | refine Tl.brF ?_ | refine Tl.gd_on ?_ | refine Tl.gd3_on ?_) | ((with_reducible first | apply Tl.brC | apply Tl.gdC | apply Tl.gd3C); focus (simp (disch := omega) only [coreA, Int.reduceBEq, base_B4, r5] <;> with_reducible rfl)))
  subst hcr
  refine Tl.bind (f16c (k := k + 108700) (c := c) (R.grow S6.grow) (F.grow S6.grow) ok (by omega) rls' (by omega)) ?_
  rintro ⟨_, h7⟩ ⟨ov, Fo, ro, rfl, hro, T7, ho⟩
  simp only at T7
  have S7 := S6.join T7
  have W7 : Rows h7 w rows := by
    rw [← hrs0]
    refine ⟨rs0.map (·.1), ?_, all2_map fun p hp => ownRow S7 (List.mem_append.2 (.inr (List.mem_append.2 (.inl (List.mem_cons_of_mem _ (List.mem_map.2 ⟨p, hp, rfl⟩))))))⟩
    rw [List.map_map]
    have hm : (w, 1, outs rs0) ∈ owns ro ++ ((w, 1, outs rs0) :: owns rs0 ++ []) := by simp
    obtain ⟨i, hi⟩ := List.mem_iff_getElem?.1 hm
    exact (S7.slV i hi).z
  have p9 := f14e (k := k + 109999) (R.grow S7.grow) W7 (by omega) (by omega) (fun r hx => by have := rls r hx; omega) (fun r hx => by have := rls r hx; omega) (by omega)
  rw [decide_eq_true rfl] at p9
  repeat (first | (with_reducible apply Tl.val; focus (simp (disch := omega) only [coreA, Int.reduceBEq, base_B4, p9] <;> with_reducible rfl)) | (with_reducible first | refine Tl.brT ?_ | refine Tl.brF ?_ | refine Tl.gd_on ?_ | refine Tl.gd3_on ?_) | ((with_reducible first | apply Tl.brC | apply Tl.gdC | apply Tl.gd3C); focus (simp (disch := omega) only [coreA, Int.reduceBEq, base_B4, p9] <;> with_reducible rfl)))
  obtain ⟨ho1, ho2⟩ := ho h7 (mem_app_l S7.sta.mem)
  have Ou : Rows h7 ov (oneR rows c) := by rw [← hro]; exact rows_out S7 ho1
  have h5g : h7.get b5 = some (.cells (chrow c.kind (.slice a1 m1 c1) (.slice a2 m2 c2) (.slice a3 m3 c3) (.slice a4 m4 c4)) 39 true) := mem_known S7 (by simp)
  have hol := one_len (rows := rows) (c := c)
  have hcr := LC.rows
  refine f4_out (k := k + 108000) h5g (F.grow S7.grow) ok (by have := LC.cols; omega) (bare_to hb) (R.grow S7.grow) Ou hb (by omega) (by omega) (fun r hx => by have := rls r hx; omega) rows.length (i := 0) (by omega) (by omega) (Grow.refl _) fun h8 y1 y2 g8 => ?_
  have c0 : h8.cell b5 0 = some (.int .i64 c.kind) := cell_of (g8.get h5g)
  have hlo : ∀ h', pLen Try.prog #[23] ov h' = some (.int .i64 (oneR rows c).length) := fun h' => Ou.len
  by_cases k1 : c.kind = 1
  · have e1 : oneN rows c = c.rows.length := by unfold oneN; rw [if_pos k1]
    have c1' : h8.cell b5 1 = some (.slice a1 m1 c1) := cell_of (g8.get h5g)
    have hl1 : ∀ h', pLen Try.prog #[23] (.slice a1 m1 c1) h' = some (.int .i64 c.rows.length) := fun h' => F.1.len
    have e2 := stays_all (c := c) rows k1
    have e3 : oneR rows c = rows ++ c.rows := by unfold oneR; rw [if_pos k1]
    have hvs : SlV Try.prog h7 ov 1 ((ro.map (·.1)).map fun v => [v]) := by rw [List.map_map]; exact ho1
    obtain ⟨v', hv', D⟩ := hvs.dropK (k := .i64) ho2 u23 sz37 (i := rows.length) (by
      have : ro.length = (oneR rows c).length := by rw [← hro, rowsOf_len]
      simp; rw [this, e3]; simp)
    have DR : Rows h7 v' c.rows := by
      have := rows_drop (l := rowsOf ro) (all2_map fun p hp => ownRow S7 (List.mem_append.2 (.inl (List.mem_map.2 ⟨p, hp, rfl⟩)))) D
      rw [hro, e3, List.drop_left] at this
      exact this
    have hv8 := hv' h8 g8
    have p10 := f14e (k := k + 109999) (DR.grow g8) (F.1.grow (S7.grow.trans g8)) (by omega) (by omega) (fun r hx => by have := LC.row r hx; omega) (fun r hx => by have := LC.row r hx; omega) (by omega)
    rw [decide_eq_true rfl] at p10
    rw [e2, e1]
    simp only [G4_32]
    repeat (first | (with_reducible apply Tl.val; focus (simp (disch := omega) only [coreA, Int.reduceBEq, base_B4, c0, c1', hl1, hv8, p10] <;> with_reducible rfl)) | (with_reducible first | refine Tl.brT ?_ | refine Tl.brF ?_ | refine Tl.gd_on ?_ | refine Tl.gd3_on ?_) | ((with_reducible first | apply Tl.brC | apply Tl.gdC | apply Tl.gd3C); focus (simp (disch := omega) only [coreA, Int.reduceBEq, base_B4, c0, c1', hl1, hv8, p10] <;> with_reducible rfl)))
    exact done _
  · have e1 := hits_eq rows hb k1
    have e2 := stays_len rows hb k1
    rw [e1, e2]
    simp only [G4_33]
    repeat (first | (with_reducible apply Tl.val; focus (simp (disch := omega) only [coreA, Int.reduceBEq, base_B4, c0, hlo] <;> with_reducible rfl)) | (with_reducible first | refine Tl.brT ?_ | refine Tl.brF ?_ | refine Tl.gd_on ?_ | refine Tl.gd3_on ?_) | ((with_reducible first | apply Tl.brC | apply Tl.gdC | apply Tl.gd3C); focus (simp (disch := omega) only [coreA, Int.reduceBEq, base_B4, c0, hlo] <;> with_reducible rfl)))
    exact done _
end Go.Proofs.Ytjmfokglckaneaa.Sh
