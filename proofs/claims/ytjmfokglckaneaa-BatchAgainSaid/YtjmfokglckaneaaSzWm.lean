/- The document's check of predicates: all of it. -/
import Derived.Test.YtjmfokglckaneaaSzWl
set_option linter.unusedVariables false
set_option linter.unusedSimpArgs false
set_option maxRecDepth 100000
namespace Go.Proofs.Ytjmfokglckaneaa.Sh
open Go Go.RowKit Go.Proofs.Ev
theorem base_Wm : type_of% (And.intro @ld3 (And.intro @ld36 (And.intro @ld59 (And.intro @fa59_0 (And.intro @fa59_1 (And.intro @fa59_2 (And.intro @fa59_3 (@Nat.add_zero)))))))) := And.intro @ld3 (And.intro @ld36 (And.intro @ld59 (And.intro @fa59_0 (And.intro @fa59_1 (And.intro @fa59_2 (And.intro @fa59_3 (@Nat.add_zero)))))))
theorem f18_in {β : Type} {inv : Inv} {k : Nat} {Q : β → Prop} {h0 : AH} {L : List (Nat × AO)} {cv v pv uv : Value} {ns : List Int} {i len b o : Nat} (N : IntsZ h0 pv ns) (hpp : pIndexAddr Try.prog 35 v (.int .i64 i) = some (.pointer (some ⟨b, o, none⟩))) (hc5 : h0.cell b (o + 5) = some pv)
    (hil : i < len) (hlen : len ≤ 64) (hns : ns.length ≤ 1000)
    {ke2 : Value → Value → Value → Value → Value → Value → AH → Option β} {kr : Value → AH → Option β} (n : Nat) :
    ∀ {q j : Nat} {us : List Int} {M : Nat} {h : AH}, q + n = ns.length → n < j → us.length = len → M ≤ 2 ^ 50 → (∀ u ∈ us, 0 ≤ u ∧ u ≤ M + q) → Stt Try.prog h0.n h0 h L [(uv, 1, irows us)] →
      (∀ us', usePs i (ns.drop q) us = some us' → us'.length = len → (∀ u ∈ us', 0 ≤ u ∧ u ≤ M + ns.length) → ∀ y1 y2 h', Stt Try.prog h0.n h0 h' L [(uv, 1, irows us')] → Tl (ke2 cv v uv (.int .i64 i) y1 y2 h') Q) →
      (usePs i (ns.drop q) us = none → ∀ h', Grow h0 h' → Tl (kr (.int .i64 180) h') Q) →
      Tl (F18_lrrllrllrlrrrrr inv k j cv v uv (.int .i64 i) (.int .i64 q) h ke2 kr) Q := by
  have hv : ∀ h', pLen Try.prog #[36] pv h' = some (.int .i64 ns.length) := fun h' => N.len
  induction n with
  | zero =>
    intro q j us M h hq hj hu hM hb S hk hr
    obtain ⟨j, rfl⟩ : ∃ q, j = q + 1 := ⟨j - 1, by omega⟩
    have c5 := S.grow.cell hc5
    simp only [F18_lrrllrllrlrrrrr]
    repeat (first | (with_reducible apply Tl.val; focus (simp (disch := omega) only [coreA, Int.reduceBEq, base_Wm, hpp, c5, hv] <;> with_reducible rfl)) | (with_reducible first | refine Tl.brT ?_ | refine Tl.brF ?_ | refine Tl.gd_on ?_ | refine Tl.gd3_on ?_) | ((with_reducible first | apply Tl.brC | apply Tl.gdC | apply Tl.gd3C); focus (simp (disch := omega) only [coreA, Int.reduceBEq, base_Wm, hpp, c5, hv] <;> with_reducible rfl)))
    refine hk us (by rw [List.drop_eq_nil_of_le (by omega)]; rfl) hu (fun u hu' => ?_) _ _ _ S
    have := hb u hu'
    omega
  | succ n ih =>
    intro q j us M h hq hj hu hM hb S hk hr
    obtain ⟨j, rfl⟩ : ∃ q, j = q + 1 := ⟨j - 1, by omega⟩
    obtain ⟨x, ex⟩ : ∃ x, ns[q]? = some x := ⟨_, List.getElem?_eq_getElem (by omega)⟩
    obtain ⟨b2, o2, hp, hc⟩ := N.at_ ex
    have hc1 := S.grow.cell hc
    have c5 := S.grow.cell hc5
    have e : (q : Int) + 1 = ((q + 1 : Nat) : Int) := by omega
    rw [drop_at ex, usePs] at hk hr
    simp only [F18_lrrllrllrlrrrrr]
    by_cases q0 : 0 ≤ x
    · by_cases q1 : x < i
      · rw [if_pos ⟨q0, q1⟩] at hk hr
        obtain ⟨w, ew⟩ : ∃ w, us[x.toNat]? = some w := ⟨_, List.getElem?_eq_getElem (by omega)⟩
        have hw := hb w (List.mem_of_getElem? ew)
        rw [ew] at hk hr
        simp only [Option.getD_some] at hk hr
        obtain ⟨bu, emb, hm⟩ := S.idx (t := 36) 0 rfl (kd := .i64) (j := x.toNat) (by rw [irows_len]; omega) u36 sz3
        obtain ⟨_, _, hpu, hcu⟩ := (show IntsZ h uv us from (S.slV 0 rfl).z).at_ ew
        rw [hm] at hpu
        cases hpu
        rw [show ((x.toNat : Nat) : Int) = x by omega] at hm
        repeat (first | (with_reducible apply Tl.val; focus (simp (disch := omega) only [coreA, Int.reduceBEq, base_Wm, hpp, c5, hv, hp, hc1, hm, hcu] <;> with_reducible rfl)) | (with_reducible first | refine Tl.brT ?_ | refine Tl.brF ?_ | refine Tl.gd_on ?_ | refine Tl.gd3_on ?_) | ((with_reducible first | apply Tl.brC | apply Tl.gdC | apply Tl.gd3C); focus (simp (disch := omega) only [coreA, Int.reduceBEq, base_Wm, hpp, c5, hv, hp, hc1, hm, hcu] <;> with_reducible rfl)))
        refine Tl.setAt S 0 rfl emb (by rw [irows_len]; omega) rfl sz3 rfl fun h' S' => ?_
        have S' : Stt Try.prog h0.n h0 h' L [(uv, 1, irows (us.set x.toNat (w + 1)))] := by
          have : irows (us.set x.toNat (w + 1)) = (irows us).set x.toNat [.int .i64 (w + 1)] := by simp [irows, List.map_set]
          rw [this]
          exact S'
        repeat (first | (with_reducible apply Tl.val; focus (simp (disch := omega) only [coreA, Int.reduceBEq, base_Wm] <;> with_reducible rfl)) | (with_reducible first | refine Tl.brT ?_ | refine Tl.brF ?_ | refine Tl.gd_on ?_ | refine Tl.gd3_on ?_) | ((with_reducible first | apply Tl.brC | apply Tl.gdC | apply Tl.gd3C); focus (simp (disch := omega) only [coreA, Int.reduceBEq, base_Wm] <;> with_reducible rfl)))
        rw [e]
        refine ih (M := M) (by omega) (by omega) (by simp; omega) hM (fun u hu' => ?_) S' hk hr
        rcases mem_set_cases hu' with rfl | ⟨j', _, hj'⟩
        · omega
        · have := hb u (List.mem_of_getElem? hj')
          omega
      · rw [if_neg (fun h => q1 h.2)] at hr
        repeat (first | (with_reducible apply Tl.val; focus (simp (disch := omega) only [coreA, Int.reduceBEq, base_Wm, hpp, c5, hv, hp, hc1] <;> with_reducible rfl)) | (with_reducible first | refine Tl.brT ?_ | refine Tl.brF ?_ | refine Tl.gd_on ?_ | refine Tl.gd3_on ?_) | ((with_reducible first | apply Tl.brC | apply Tl.gdC | apply Tl.gd3C); focus (simp (disch := omega) only [coreA, Int.reduceBEq, base_Wm, hpp, c5, hv, hp, hc1] <;> with_reducible rfl)))
        exact hr rfl _ S.grow
    · rw [if_neg (fun h => q0 h.1)] at hr
      repeat (first | (with_reducible apply Tl.val; focus (simp (disch := omega) only [coreA, Int.reduceBEq, base_Wm, hpp, c5, hv, hp, hc1] <;> with_reducible rfl)) | (with_reducible first | refine Tl.brT ?_ | refine Tl.brF ?_ | refine Tl.gd_on ?_ | refine Tl.gd3_on ?_) | ((with_reducible first | apply Tl.brC | apply Tl.gdC | apply Tl.gd3C); focus (simp (disch := omega) only [coreA, Int.reduceBEq, base_Wm, hpp, c5, hv, hp, hc1] <;> with_reducible rfl)))
      exact hr rfl _ S.grow
theorem f18_out {β : Type} {k : Nat} {Q : β → Prop} {h0 : AH} {cv v uv : Value} {cols : List ColD} {l : List NodeD} (C : Cols h0 cv cols) (hcl : cols.length ≤ 9223372036854775807) (PL : Preds h0 v l) (hl : l.length ≤ 64) (hps : ∀ nd ∈ l, nd.parts.length ≤ 900)
    {ke0 : Value → Value → Value → Value → Value → AH → Option β} {kr : Value → AH → Option β} (n : Nat) :
    ∀ {i j : Nat} {us : List Int} {h : AH}, i + n = l.length → n < j → us.length = l.length → (∀ u ∈ us, 0 ≤ u ∧ u ≤ i * 1000) → Stt Try.prog h0.n h0 h [] [(uv, 1, irows us)] →
      (∀ us', checkF cols i (l.drop i) us = some us' → us'.length = l.length → ∀ y4 y5 h', Stt Try.prog h0.n h0 h' [] [(uv, 1, irows us')] → Tl (ke0 cv v uv y4 y5 h') Q) →
      (checkF cols i (l.drop i) us = none → ∀ h', Grow h0 h' → Tl (kr (.int .i64 180) h') Q) →
      Tl (F18_lrlrrrrr (eInv env (k + 1000)) (k + 1000) j cv v uv (.int .i64 i) h ke0 kr) Q := by
  have hv : ∀ h', pLen Try.prog #[35] v h' = some (.int .i64 l.length) := fun h' => PL.len
  induction n with
  | zero =>
    intro i j us h hi hj hu hb S hk hr
    obtain ⟨j, rfl⟩ : ∃ q, j = q + 1 := ⟨j - 1, by omega⟩
    simp only [F18_lrlrrrrr]
    repeat (first | (with_reducible apply Tl.val; focus (simp (disch := omega) only [coreA, Int.reduceBEq, base_Wm, hv] <;> with_reducible rfl)) | (with_reducible first | refine Tl.brT ?_ | refine Tl.brF ?_ | refine Tl.gd_on ?_ | refine Tl.gd3_on ?_) | ((with_reducible first | apply Tl.brC | apply Tl.gdC | apply Tl.gd3C); focus (simp (disch := omega) only [coreA, Int.reduceBEq, base_Wm, hv] <;> with_reducible rfl)))
    exact hk us (by rw [List.drop_eq_nil_of_le (by omega)]; rfl) hu _ _ _ S
  | succ n ih =>
    intro i j us h hi hj hu hb S hk hr
    obtain ⟨j, rfl⟩ : ∃ q, j = q + 1 := ⟨j - 1, by omega⟩
    obtain ⟨nd, ex⟩ : ∃ x, l[i]? = some x := ⟨_, List.getElem?_eq_getElem (by omega)⟩
    obtain ⟨b, o, pv, hp, hrow, N⟩ := PL.at_ ex
    have hn1 := hps nd (List.mem_of_getElem? ex)
    have hrow1 := S.grow.row hrow
    obtain ⟨pa, pc, epv, _⟩ := SlZ.form N
    rw [irows_len] at epv
    subst epv
    have e : (i : Int) + 1 = ((i + 1 : Nat) : Int) := by omega
    rw [drop_at ex, checkF] at hk hr
    simp only [F18_lrlrrrrr]
    repeat (first | (with_reducible apply Tl.val; focus (simp (disch := omega) only [coreA, Int.reduceBEq, base_Wm, hv, hp, hrow1] <;> with_reducible rfl)) | (with_reducible first | refine Tl.brT ?_ | refine Tl.brF ?_ | refine Tl.gd_on ?_ | refine Tl.gd3_on ?_) | ((with_reducible first | apply Tl.brC | apply Tl.gdC | apply Tl.gd3C); focus (simp (disch := omega) only [coreA, Int.reduceBEq, base_Wm, hv, hp, hrow1] <;> with_reducible rfl)))
    refine Tl.call' S (f44c (k := k + 990) (C.grow S.grow) hcl) fun h3 S3 g3 => ?_
    cases q : nodeOk cols nd with
    | false =>
      rw [q] at hr
      simp only [Bool.false_eq_true, if_false] at hr
      repeat (first | (with_reducible apply Tl.val; focus (simp (disch := omega) only [coreA, Int.reduceBEq, base_Wm] <;> with_reducible rfl)) | (with_reducible first | refine Tl.brT ?_ | refine Tl.brF ?_ | refine Tl.gd_on ?_ | refine Tl.gd3_on ?_) | ((with_reducible first | apply Tl.brC | apply Tl.gdC | apply Tl.gd3C); focus (simp (disch := omega) only [coreA, Int.reduceBEq, base_Wm] <;> with_reducible rfl)))
      exact hr trivial _ S3.grow
    | true =>
      rw [q] at hk hr
      simp only [if_true] at hk hr
      repeat (first | (with_reducible apply Tl.val; focus (simp (disch := omega) only [coreA, Int.reduceBEq, base_Wm] <;> with_reducible rfl)) | (with_reducible first | refine Tl.brT ?_ | refine Tl.brF ?_ | refine Tl.gd_on ?_ | refine Tl.gd3_on ?_) | ((with_reducible first | apply Tl.brC | apply Tl.gdC | apply Tl.gd3C); focus (simp (disch := omega) only [coreA, Int.reduceBEq, base_Wm] <;> with_reducible rfl)))
      refine f18_in N (len := l.length) hp (Ev.cell_of_row (j := 5) hrow (by omega)) (by omega) (by omega) (by omega) nd.parts.length (q := 0) (M := i * 1000) (by omega) (by omega) hu (by omega) (fun u hu' => by have := hb u hu'; omega) S3 (fun us' q1 hu' hb' y1 y2 h' S' => ?_) fun q1 h' g' => ?_
      · rw [List.drop_zero] at q1
        rw [q1] at hk hr
        simp only [Option.bind_some] at hk hr
        repeat (first | (with_reducible apply Tl.val; focus (simp (disch := omega) only [coreA, Int.reduceBEq, base_Wm] <;> with_reducible rfl)) | (with_reducible first | refine Tl.brT ?_ | refine Tl.brF ?_ | refine Tl.gd_on ?_ | refine Tl.gd3_on ?_) | ((with_reducible first | apply Tl.brC | apply Tl.gdC | apply Tl.gd3C); focus (simp (disch := omega) only [coreA, Int.reduceBEq, base_Wm] <;> with_reducible rfl)))
        rw [e]
        exact ih (by omega) (by omega) hu' (fun u hu'' => by have := hb' u hu''; omega) S' hk hr
      · rw [List.drop_zero] at q1
        rw [q1] at hr
        exact hr rfl h' g'
theorem f18_end {β : Type} {inv : Inv} {k : Nat} {Q : β → Prop} {h : AH} {v uv : Value} {us : List Int} {len : Nat} (U : IntsZ h uv us) (hu : us.length = len) (hlen : len ≤ 64) (hv : ∀ h', pLen Try.prog #[35] v h' = some (.int .i64 len))
    {ke4 : Value → Value → Value → Value → AH → Option β} {kr : Value → AH → Option β} (n : Nat) :
    ∀ {i j : Nat}, i + n = len - 1 → n < j → (((us.take (len - 1)).drop i).any (fun n => n != 1) = false → ∀ y1 y2, Tl (ke4 v uv y1 y2 h) Q) → (((us.take (len - 1)).drop i).any (fun n => n != 1) = true → Tl (kr (.int .i64 180) h) Q) →
      Tl (F18_lrlrrrrrr inv k j v uv (.int .i64 i) h ke4 kr) Q := by
  induction n with
  | zero =>
    intro i j hi hj hk hr
    obtain ⟨j, rfl⟩ : ∃ q, j = q + 1 := ⟨j - 1, by omega⟩
    simp only [F18_lrlrrrrrr]
    repeat (first | (with_reducible apply Tl.val; focus (simp (disch := omega) only [coreA, Int.reduceBEq, base_Wm, hv] <;> with_reducible rfl)) | (with_reducible first | refine Tl.brT ?_ | refine Tl.brF ?_ | refine Tl.gd_on ?_ | refine Tl.gd3_on ?_) | ((with_reducible first | apply Tl.brC | apply Tl.gdC | apply Tl.gd3C); focus (simp (disch := omega) only [coreA, Int.reduceBEq, base_Wm, hv] <;> with_reducible rfl)))
    exact hk (by rw [List.drop_eq_nil_of_le (by simp; omega)]; rfl) _ _
  | succ n ih =>
    intro i j hi hj hk hr
    obtain ⟨j, rfl⟩ : ∃ q, j = q + 1 := ⟨j - 1, by omega⟩
    obtain ⟨x, ex⟩ : ∃ x, us[i]? = some x := ⟨_, List.getElem?_eq_getElem (by omega)⟩
    obtain ⟨b, o, hp, hc⟩ := U.at_ ex
    have ex' : (us.take (len - 1))[i]? = some x := by rw [List.getElem?_take, if_pos (by omega), ex]
    have e : (i : Int) + 1 = ((i + 1 : Nat) : Int) := by omega
    rw [drop_at ex', List.any_cons] at hk hr
    simp only [F18_lrlrrrrrr]
    by_cases q : x = 1
    · rw [show (x != 1) = false by simp [q], Bool.false_or] at hk hr
      repeat (first | (with_reducible apply Tl.val; focus (simp (disch := omega) only [coreA, Int.reduceBEq, base_Wm, hv, hp, hc] <;> with_reducible rfl)) | (with_reducible first | refine Tl.brT ?_ | refine Tl.brF ?_ | refine Tl.gd_on ?_ | refine Tl.gd3_on ?_) | ((with_reducible first | apply Tl.brC | apply Tl.gdC | apply Tl.gd3C); focus (simp (disch := omega) only [coreA, Int.reduceBEq, base_Wm, hv, hp, hc] <;> with_reducible rfl)))
      rw [e]
      exact ih (by omega) (by omega) hk hr
    · rw [show (x != 1) = true by simp [q], Bool.true_or] at hr
      repeat (first | (with_reducible apply Tl.val; focus (simp (disch := omega) only [coreA, Int.reduceBEq, base_Wm, hv, hp, hc] <;> with_reducible rfl)) | (with_reducible first | refine Tl.brT ?_ | refine Tl.brF ?_ | refine Tl.gd_on ?_ | refine Tl.gd3_on ?_) | ((with_reducible first | apply Tl.brC | apply Tl.gdC | apply Tl.gd3C); focus (simp (disch := omega) only [coreA, Int.reduceBEq, base_Wm, hv, hp, hc] <;> with_reducible rfl)))
      exact hr rfl
theorem f18c {k : Nat} {h : AH} {cv v : Value} {cols : List ColD} {l : List NodeD} (C : Cols h cv cols) (hcl : cols.length ≤ 9223372036854775807) (PL : Preds h v l) (hl : l.length ≤ 9223372036854775807) (hps : ∀ nd ∈ l, nd.parts.length ≤ 900) :
    Tl (eInv env (k + 1300) (.func 18) #[] #[cv, v] h) fun r => (∃ e : Int, r.1 = .int .i64 e ∧ (e = 0 ↔ predOk cols l = true)) ∧ Grow h r.2 := by
  rw [F18_call]
  unfold F18 predOk
  have hv : ∀ h', pLen Try.prog #[35] v h' = some (.int .i64 l.length) := fun h' => PL.len
  obtain ⟨e, hq, he⟩ := f43e (k := k + 1098) C hcl
  by_cases q : e = 0
  · rw [he.1 q, Bool.true_and]
    by_cases q2 : l.length ≤ 64
    · rw [decide_eq_true q2, Bool.true_and]
      repeat (first | (with_reducible apply Tl.val; focus (simp (disch := omega) only [coreA, Int.reduceBEq, base_Wm, hq, hv] <;> with_reducible rfl)) | (with_reducible first | refine Tl.brT ?_ | refine Tl.brF ?_ | refine Tl.gd_on ?_ | refine Tl.gd3_on ?_) | ((with_reducible first | apply Tl.brC | apply Tl.gdC | apply Tl.gd3C); focus (simp (disch := omega) only [coreA, Int.reduceBEq, base_Wm, hq, hv] <;> with_reducible rfl)))
      refine Tl.make' (Stt.init h) app36 ze3 (by omega) (by omega) fun uv h2 S2 g2 => ?_
      have er : List.replicate l.length (Value.int .i64 0).cells.toList = irows (List.replicate l.length 0) := by simp [irows, Value.cells]
      rw [er] at S2
      repeat (first | (with_reducible apply Tl.val; focus (simp (disch := omega) only [coreA, Int.reduceBEq, base_Wm, hv] <;> with_reducible rfl)) | (with_reducible first | refine Tl.brT ?_ | refine Tl.brF ?_ | refine Tl.gd_on ?_ | refine Tl.gd3_on ?_) | ((with_reducible first | apply Tl.brC | apply Tl.gdC | apply Tl.gd3C); focus (simp (disch := omega) only [coreA, Int.reduceBEq, base_Wm, hv] <;> with_reducible rfl)))
      refine f18_out (k := k + 299) C hcl PL q2 hps l.length (i := 0) (us := List.replicate l.length 0) (by omega) (by omega) (by simp) (fun u hu => by have := List.eq_of_mem_replicate hu; omega) S2 (fun us' q3 hu' y4 y5 h' S' => ?_) fun q3 h' g' => ?_
      · rw [List.drop_zero] at q3
        rw [q3]
        simp only
        refine f18_end (S'.slV 0 rfl).z hu' q2 hv (l.length - 1) (i := 0) (by omega) (by omega) (fun q4 y1 y2 => ?_) fun q4 => ?_
        · rw [List.drop_zero] at q4
          exact ⟨_, rfl, ⟨0, rfl, by rw [q4]; simp⟩, S'.grow⟩
        · rw [List.drop_zero] at q4
          exact ⟨_, rfl, ⟨180, rfl, by rw [q4]; simp⟩, S'.grow⟩
      · rw [List.drop_zero] at q3
        rw [q3]
        exact ⟨_, rfl, ⟨180, rfl, by simp⟩, g'⟩
    · repeat (first | (with_reducible apply Tl.val; focus (simp (disch := omega) only [coreA, Int.reduceBEq, base_Wm, hq, hv] <;> with_reducible rfl)) | (with_reducible first | refine Tl.brT ?_ | refine Tl.brF ?_ | refine Tl.gd_on ?_ | refine Tl.gd3_on ?_) | ((with_reducible first | apply Tl.brC | apply Tl.gdC | apply Tl.gd3C); focus (simp (disch := omega) only [coreA, Int.reduceBEq, base_Wm, hq, hv] <;> with_reducible rfl)))
      exact ⟨_, rfl, ⟨180, rfl, by simp [q2]⟩, Grow.refl _⟩
  · have q' : colsOk cols = false := by
      cases hf : colsOk cols with
      | false => rfl
      | true => exact absurd (he.2 hf) q
    rw [q', Bool.false_and]
    repeat (first | (with_reducible apply Tl.val; focus (simp (disch := omega) only [coreA, Int.reduceBEq, base_Wm, hq, hv] <;> with_reducible rfl)) | (with_reducible first | refine Tl.brT ?_ | refine Tl.brF ?_ | refine Tl.gd_on ?_ | refine Tl.gd3_on ?_) | ((with_reducible first | apply Tl.brC | apply Tl.gdC | apply Tl.gd3C); focus (simp (disch := omega) only [coreA, Int.reduceBEq, base_Wm, hq, hv] <;> with_reducible rfl)))
    exact ⟨_, rfl, ⟨e, rfl, by simp [q]⟩, Grow.refl _⟩
end Go.Proofs.Ytjmfokglckaneaa.Sh
