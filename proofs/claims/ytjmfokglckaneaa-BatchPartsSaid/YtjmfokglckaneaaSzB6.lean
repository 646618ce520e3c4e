/- 'BatchParts' comes to true. -/
import Derived.Test.YtjmfokglckaneaaSzB5
import Derived.Test.YtjmfokglckaneaaSzB7
set_option linter.unusedVariables false
set_option linter.unusedSimpArgs false
set_option maxRecDepth 100000
namespace Go.Proofs.Ytjmfokglckaneaa.Sh
open Go Go.RowKit Go.Proofs.Ev
theorem base_B6 : type_of% (And.intro @ld3 (And.intro @ld37 (And.intro @ld23 (And.intro @ld39 (And.intro @Nat.add_zero (And.intro @ex3_0 (And.intro @ex3_1 (@ex3_2)))))))) := And.intro @ld3 (And.intro @ld37 (And.intro @ld23 (And.intro @ld39 (And.intro @Nat.add_zero (And.intro @ex3_0 (And.intro @ex3_1 (@ex3_2)))))))
theorem brought_light {l : List ChangeD} (h : ∀ c ∈ l, LightC c) : broughtL l ≤ l.length * 40 := by
  induction l with
  | nil => simp [broughtL]
  | cons c l ih =>
    have h1 := ih fun d hd => h d (List.mem_cons_of_mem _ hd)
    have h2 := (h c (List.mem_cons_self ..)).rows
    unfold broughtL at h1 ⊢
    rw [List.map_cons, List.sum_cons, List.length_cons]
    omega
theorem f3 {k : Nat} {h : AH} {cv rv lv : Value} {cols : List ColD} {rows : List (List CellD)} {l : List ChangeD} {cut : Int} (C : Cols h cv cols) (R : Rows h rv rows) (B : Changes h lv l) (Z : l ≠ [] → SzV Try.prog h lv 5)
    (hcl : cols.length ≤ 9223372036854775807 ∧ cols.length < k) (hrl : rows.length ≤ 9223372036854775807 ∧ rows.length < k) (hr : ∀ r ∈ rows, r.length ≤ 9223372036854775807 ∧ r.length < k) (hll : l.length < 9223372036854775808 ∧ l.length < k) (hs : ∀ c ∈ l, ChS 9223372036854775808 c ∧ ChS k c) (W : ∀ c ∈ l, ChCell c) :
    Tl (F3 (eInv env (k + 110000)) (k + 110000) cv rv lv (.int .i64 cut) h) fun r => r.1 = .bool true := by
  unfold F3
  have done : ∀ h' : AH, Tl (some (Value.bool true, h')) fun r => r.1 = Value.bool true := fun h' => ⟨_, rfl, rfl⟩
  have hlv := lives_call (k := k + 109999) (h := h)
  have p1 := f9e (k := k + 109996) C R B ⟨hcl.1, by omega⟩ ⟨hrl.1, by omega⟩ (fun r hx => ⟨(hr r hx).1, by have := (hr r hx).2; omega⟩) ⟨hll.1, by omega⟩ (fun d hd => by
    have := hs d hd
    exact ⟨this.1, ⟨by have := this.2.rows; omega, fun r hr => by have := this.2.row r hr; omega, by have := this.2.pred; omega, by have := this.2.cols; omega, by have := this.2.to; omega⟩⟩)
  simp only [G3_3]
  cases q1 : lightL cols rows l with
  | false =>
    rw [q1] at p1
    repeat (first | (with_reducible apply Tl.val; focus (simp (disch := omega) only [coreA, Int.reduceBEq, base_B6, hlv, p1] <;> with_reducible rfl)) | (with_reducible first | refine Tl.brT ?_ | refine Tl.brF ?_ | refine Tl.gd_on ?_ | refine Tl.gd3_on ?_) | ((with_reducible first | apply Tl.brC | apply Tl.gdC | apply Tl.gd3C); focus (simp (disch := omega) only [coreA, Int.reduceBEq, base_B6, hlv, p1] <;> with_reducible rfl)))
    exact done _
  | true =>
  rw [q1] at p1
  obtain ⟨⟨rl, rls⟩, ll, lc⟩ := light_all q1
  have okc : ∀ c ∈ l, ChC c := fun c hc => (lc c hc).chc (W c hc)
  have ok : ∀ c ∈ l, ChOk c := fun c hc => (lc c hc).ok
  repeat (first | (with_reducible apply Tl.val; focus (simp (disch := omega) only [coreA, Int.reduceBEq, base_B6, hlv, p1] <;> with_reducible rfl)) | (with_reducible first | refine Tl.brT ?_ | refine Tl.brF ?_ | refine Tl.gd_on ?_ | refine Tl.gd3_on ?_) | ((with_reducible first | apply Tl.brC | apply Tl.gdC | apply Tl.gd3C); focus (simp (disch := omega) only [coreA, Int.reduceBEq, base_B6, hlv, p1] <;> with_reducible rfl)))
  refine Tl.bind (f10c (k := k + 108688) C hcl.1 B (by omega) okc (by omega)) ?_
  rintro ⟨r, h1⟩ ⟨⟨z, er, hz⟩, g1⟩
  simp only at er g1
  subst er
  by_cases q2 : ¬ z = 0
  · repeat (first | (with_reducible apply Tl.val; focus (simp (disch := omega) only [coreA, Int.reduceBEq, base_B6] <;> with_reducible rfl)) | (with_reducible first | refine Tl.brT ?_ | refine Tl.brF ?_ | refine Tl.gd_on ?_ | refine Tl.gd3_on ?_) | ((with_reducible first | apply Tl.brC | apply Tl.gdC | apply Tl.gd3C); focus (simp (disch := omega) only [coreA, Int.reduceBEq, base_B6] <;> with_reducible rfl)))
    exact done _
  have q2 : z = 0 := Classical.not_not.1 q2
  have hb := hz.1 q2
  have hbg : batchGo cols 0 l = true ∧ 1 ≤ l.length := by
    unfold batchOk at hb
    simp only [Bool.and_eq_true, decide_eq_true_eq] at hb
    exact ⟨hb.2.2, hb.2.1.1⟩
  repeat (first | (with_reducible apply Tl.val; focus (simp (disch := omega) only [coreA, Int.reduceBEq, base_B6] <;> with_reducible rfl)) | (with_reducible first | refine Tl.brT ?_ | refine Tl.brF ?_ | refine Tl.gd_on ?_ | refine Tl.gd3_on ?_) | ((with_reducible first | apply Tl.brC | apply Tl.gdC | apply Tl.gd3C); focus (simp (disch := omega) only [coreA, Int.reduceBEq, base_B6] <;> with_reducible rfl)))
  refine Tl.bind (f11c (k := k + 109699) (C.grow g1) (R.grow g1) hcl.1 (by omega) (fun r hx => (hr r hx).1) (by omega)) ?_
  rintro ⟨r, h2⟩ ⟨er, g2⟩
  simp only at er g2
  subst er
  have g2 := g1.trans g2
  cases q3 : fitRs cols rows with
  | false =>
    repeat (first | (with_reducible apply Tl.val; focus (simp (disch := omega) only [coreA, Int.reduceBEq, base_B6] <;> with_reducible rfl)) | (with_reducible first | refine Tl.brT ?_ | refine Tl.brF ?_ | refine Tl.gd_on ?_ | refine Tl.gd3_on ?_) | ((with_reducible first | apply Tl.brC | apply Tl.gdC | apply Tl.gd3C); focus (simp (disch := omega) only [coreA, Int.reduceBEq, base_B6] <;> with_reducible rfl)))
    exact done _
  | true =>
  repeat (first | (with_reducible apply Tl.val; focus (simp (disch := omega) only [coreA, Int.reduceBEq, base_B6] <;> with_reducible rfl)) | (with_reducible first | refine Tl.brT ?_ | refine Tl.brF ?_ | refine Tl.gd_on ?_ | refine Tl.gd3_on ?_) | ((with_reducible first | apply Tl.brC | apply Tl.gdC | apply Tl.gd3C); focus (simp (disch := omega) only [coreA, Int.reduceBEq, base_B6] <;> with_reducible rfl)))
  have rls' : ∀ r ∈ rows, r.length ≤ 2 ^ 30 := fun r hx => by have := rls r hx; omega
  have hbl := brought_light lc
  have hcr : ∀ c ∈ l, ∀ r ∈ c.rows, r.length ≤ 20 := fun c hc => (lc c hc).row
  refine Tl.bind (f12c (k := k + 108687) (C.grow g2) hcl.1 (R.grow g2) (B.grow g2) hb okc ok (by omega) rls' (by omega) (by omega)) ?_
  rintro ⟨_, h3⟩ ⟨ov, rfl, R3, g3⟩
  simp only at R3 g3
  have g3 := g2.trans g3
  have hv : ∀ h', pLen Try.prog #[24] lv h' = some (.int .i64 l.length) := fun h' => B.len
  obtain ⟨p, hp, hpick⟩ := f13e (k := k + 109999) (n := cut) (m := (l.length : Int) + 1) (by omega) (by omega) h3
  have hall := do_fits l 0 rows hbg.1 q3
  have hdl := doR_len l rows
  have hdr := doR_row l rows rls hcr
  simp only [G3_7, G3_11]
  by_cases hp0 : p = 0 ∨ p = l.length
  · rcases hp0 with hp0 | hp0
    · repeat (first | (with_reducible apply Tl.val; focus (simp (disch := omega) only [coreA, Int.reduceBEq, base_B6, hv, hpick] <;> with_reducible rfl)) | (with_reducible first | refine Tl.brT ?_ | refine Tl.brF ?_ | refine Tl.gd_on ?_ | refine Tl.gd3_on ?_) | ((with_reducible first | apply Tl.brC | apply Tl.gdC | apply Tl.gd3C); focus (simp (disch := omega) only [coreA, Int.reduceBEq, base_B6, hv, hpick] <;> with_reducible rfl)))
      refine Tl.bind (f11c (k := k + 109699) (C.grow g3) R3 hcl.1 (by omega) (fun r hx => by have := hdr r hx; omega) (by omega)) ?_
      rintro ⟨r, h4⟩ ⟨er, g4⟩
      simp only at er g4
      subst er
      rw [hall]
      repeat (first | (with_reducible apply Tl.val; focus (simp (disch := omega) only [coreA, Int.reduceBEq, base_B6] <;> with_reducible rfl)) | (with_reducible first | refine Tl.brT ?_ | refine Tl.brF ?_ | refine Tl.gd_on ?_ | refine Tl.gd3_on ?_) | ((with_reducible first | apply Tl.brC | apply Tl.gdC | apply Tl.gd3C); focus (simp (disch := omega) only [coreA, Int.reduceBEq, base_B6] <;> with_reducible rfl)))
      exact done _
    · repeat (first | (with_reducible apply Tl.val; focus (simp (disch := omega) only [coreA, Int.reduceBEq, base_B6, hv, hpick] <;> with_reducible rfl)) | (with_reducible first | refine Tl.brT ?_ | refine Tl.brF ?_ | refine Tl.gd_on ?_ | refine Tl.gd3_on ?_) | ((with_reducible first | apply Tl.brC | apply Tl.gdC | apply Tl.gd3C); focus (simp (disch := omega) only [coreA, Int.reduceBEq, base_B6, hv, hpick] <;> with_reducible rfl)))
      refine Tl.bind (f11c (k := k + 109699) (C.grow g3) R3 hcl.1 (by omega) (fun r hx => by have := hdr r hx; omega) (by omega)) ?_
      rintro ⟨r, h4⟩ ⟨er, g4⟩
      simp only at er g4
      subst er
      rw [hall]
      repeat (first | (with_reducible apply Tl.val; focus (simp (disch := omega) only [coreA, Int.reduceBEq, base_B6] <;> with_reducible rfl)) | (with_reducible first | refine Tl.brT ?_ | refine Tl.brF ?_ | refine Tl.gd_on ?_ | refine Tl.gd3_on ?_) | ((with_reducible first | apply Tl.brC | apply Tl.gdC | apply Tl.gd3C); focus (simp (disch := omega) only [coreA, Int.reduceBEq, base_B6] <;> with_reducible rfl)))
      exact done _
  · have hp1 : 1 ≤ p ∧ p < l.length := by omega
    obtain ⟨v1, hs1, B1⟩ := (B.grow g3).takeK (i := p) (by omega)
    obtain ⟨v2, hs2, B2⟩ := (B.grow g3).dropK ((Z (fun e => by rw [e] at hbg; simp at hbg)).grow g3) (fun e => by rw [e] at hbg; simp at hbg) (i := p) (by omega)
    have hbt := brought_take l p
    have hs1' := hs1 h3
    repeat (first | (with_reducible apply Tl.val; focus (simp (disch := omega) only [coreA, Int.reduceBEq, base_B6, hv, hpick, hs1'] <;> with_reducible rfl)) | (with_reducible first | refine Tl.brT ?_ | refine Tl.brF ?_ | refine Tl.gd_on ?_ | refine Tl.gd3_on ?_) | ((with_reducible first | apply Tl.brC | apply Tl.gdC | apply Tl.gd3C); focus (simp (disch := omega) only [coreA, Int.reduceBEq, base_B6, hv, hpick, hs1'] <;> with_reducible rfl)))
    refine Tl.bind (f12c (k := k + 108687) (C.grow g3) hcl.1 (R.grow g3) B1 (ok_take hb hp1.1 hp1.2) (fun c hc => okc c (List.mem_of_mem_take hc)) (fun c hc => ok c (List.mem_of_mem_take hc)) (by simp; omega) rls' (by omega) (by omega)) ?_
    rintro ⟨_, h4⟩ ⟨ov1, rfl, R4, g4⟩
    simp only at R4 g4
    have hs2' := hs2 h4 g4
    have hdl1 := doR_len (l.take p) rows
    have hdr1 := doR_row (l.take p) rows rls fun c hc => hcr c (List.mem_of_mem_take hc)
    have g34 := g3.trans g4
    repeat (first | (with_reducible apply Tl.val; focus (simp (disch := omega) only [coreA, Int.reduceBEq, base_B6, hs2'] <;> with_reducible rfl)) | (with_reducible first | refine Tl.brT ?_ | refine Tl.brF ?_ | refine Tl.gd_on ?_ | refine Tl.gd3_on ?_) | ((with_reducible first | apply Tl.brC | apply Tl.gdC | apply Tl.gd3C); focus (simp (disch := omega) only [coreA, Int.reduceBEq, base_B6, hs2'] <;> with_reducible rfl)))
    refine Tl.bind (f12c (k := k + 108687) (C.grow g34) hcl.1 R4 (B2.grow g4) (ok_drop hb hp1.1 hp1.2) (fun c hc => okc c (List.mem_of_mem_drop hc)) (fun c hc => ok c (List.mem_of_mem_drop hc)) (by simp; omega) (fun r hx => by have := hdr1 r hx; omega) (by omega) (by omega)) ?_
    rintro ⟨_, h5⟩ ⟨ov2, rfl, R5, g5⟩
    simp only at R5 g5
    have g45 := g4.trans g5
    have e1 : doR (doR rows (l.take p)) (l.drop p) = doR rows l := by rw [← doR_app, List.take_append_drop]
    have e2 : doN rows l = doN rows (l.take p) + doN (doR rows (l.take p)) (l.drop p) := by rw [← doN_app, List.take_append_drop]
    have hn1 := doN_le (l.take p) rows
    have hn2 := doN_le (l.drop p) (doR rows (l.take p))
    have hn1' : (l.take p).length * (rows.length + broughtL (l.take p)) ≤ 18 * 1000 := Nat.mul_le_mul (by simp; omega) (by omega)
    have hn2' : (l.drop p).length * ((doR rows (l.take p)).length + broughtL (l.drop p)) ≤ 18 * 2000 := Nat.mul_le_mul (by simp; omega) (by omega)
    rw [e1] at R5
    repeat (first | (with_reducible apply Tl.val; focus (simp (disch := omega) only [coreA, Int.reduceBEq, base_B6] <;> with_reducible rfl)) | (with_reducible first | refine Tl.brT ?_ | refine Tl.brF ?_ | refine Tl.gd_on ?_ | refine Tl.gd3_on ?_) | ((with_reducible first | apply Tl.brC | apply Tl.gdC | apply Tl.gd3C); focus (simp (disch := omega) only [coreA, Int.reduceBEq, base_B6] <;> with_reducible rfl)))
    refine Tl.bind (f11c (k := k + 109699) (C.grow (g34.trans g5)) (R3.grow g45) hcl.1 (by omega) (fun r hx => by have := hdr r hx; omega) (by omega)) ?_
    rintro ⟨r, h6⟩ ⟨er, g6⟩
    simp only at er g6
    subst er
    rw [hall]
    have p9 := f14e (k := k + 109999) (R3.grow (g45.trans g6)) (R5.grow g6) (by omega) (by omega) (fun r hx => by have := hdr r hx; omega) (fun r hx => by have := hdr r hx; omega) (by omega)
    rw [decide_eq_true rfl] at p9
    rw [e2]
    repeat (first | (with_reducible apply Tl.val; focus (simp (disch := omega) only [coreA, Int.reduceBEq, base_B6, p9] <;> with_reducible rfl)) | (with_reducible first | refine Tl.brT ?_ | refine Tl.brF ?_ | refine Tl.gd_on ?_ | refine Tl.gd3_on ?_) | ((with_reducible first | apply Tl.brC | apply Tl.gdC | apply Tl.gd3C); focus (simp (disch := omega) only [coreA, Int.reduceBEq, base_B6, p9] <;> with_reducible rfl)))
    exact done _
end Go.Proofs.Ytjmfokglckaneaa.Sh
