/- The document's check of predicates. -/
import Derived.Test.YtjmfokglckaneaaSzWj
set_option linter.unusedVariables false
set_option linter.unusedSimpArgs false
set_option maxRecDepth 100000
namespace Go.Proofs.Ytjmfokglckaneaa.Sh
open Go Go.RowKit Go.Proofs.Ev
theorem base_Wl : type_of% (And.intro @ld3 (And.intro @ld2 (And.intro @ld4 (And.intro @ld9 (And.intro @ld36 (And.intro @ld45 (And.intro @ld80 (And.intro @ld59 (And.intro @fa45_0 (And.intro @fa45_1 (And.intro @fa45_2 (And.intro @fa80_0 (And.intro @fa80_1 (And.intro @fa80_2 (And.intro @fa59_0 (And.intro @fa59_1 (And.intro @fa59_2 (And.intro @fa59_3 (And.intro @Nat.add_zero (And.intro @ex2_0 (@ex2_1))))))))))))))))))))) := And.intro @ld3 (And.intro @ld2 (And.intro @ld4 (And.intro @ld9 (And.intro @ld36 (And.intro @ld45 (And.intro @ld80 (And.intro @ld59 (And.intro @fa45_0 (And.intro @fa45_1 (And.intro @fa45_2 (And.intro @fa80_0 (And.intro @fa80_1 (And.intro @fa80_2 (And.intro @fa59_0 (And.intro @fa59_1 (And.intro @fa59_2 (And.intro @fa59_3 (And.intro @Nat.add_zero (And.intro @ex2_0 (@ex2_1))))))))))))))))))))
theorem f41e {k : Nat} (op : Int) (h : AH) : eInv env (k + 1) (.func 41) #[] #[.int .i64 op] h = some (.bool (decide (2 ≤ op ∧ op ≤ 5)), h) := by
  rw [F41_call]
  have T : Tl (F41 (eInv env k) k (.int .i64 op) h) fun r => r = (.bool (decide (2 ≤ op ∧ op ≤ 5)), h) := by
    unfold F41
    by_cases q1 : 2 ≤ op
    · by_cases q2 : op ≤ 5
      · repeat (first | (with_reducible apply Tl.val; focus (simp (disch := omega) only [coreA, Int.reduceBEq, base_Wl] <;> with_reducible rfl)) | (with_reducible first | refine Tl.brT ?_ | refine Tl.brF ?_ | refine Tl.gd_on ?_ | refine Tl.gd3_on ?_) | ((with_reducible first | apply Tl.brC | apply Tl.gdC | apply Tl.gd3C); focus (simp (disch := omega) only [coreA, Int.reduceBEq, base_Wl] <;> with_reducible rfl)))
        exact ⟨_, rfl, by simp [q1, q2]⟩
      · repeat (first | (with_reducible apply Tl.val; focus (simp (disch := omega) only [coreA, Int.reduceBEq, base_Wl] <;> with_reducible rfl)) | (with_reducible first | refine Tl.brT ?_ | refine Tl.brF ?_ | refine Tl.gd_on ?_ | refine Tl.gd3_on ?_) | ((with_reducible first | apply Tl.brC | apply Tl.gdC | apply Tl.gd3C); focus (simp (disch := omega) only [coreA, Int.reduceBEq, base_Wl] <;> with_reducible rfl)))
        exact ⟨_, rfl, by simp [q1, q2]⟩
    · repeat (first | (with_reducible apply Tl.val; focus (simp (disch := omega) only [coreA, Int.reduceBEq, base_Wl] <;> with_reducible rfl)) | (with_reducible first | refine Tl.brT ?_ | refine Tl.brF ?_ | refine Tl.gd_on ?_ | refine Tl.gd3_on ?_) | ((with_reducible first | apply Tl.brC | apply Tl.gdC | apply Tl.gd3C); focus (simp (disch := omega) only [coreA, Int.reduceBEq, base_Wl] <;> with_reducible rfl)))
      exact ⟨_, rfl, by simp [q1]⟩
  obtain ⟨r, h1, h2⟩ := T
  rw [h1, h2]
section
variable {β : Type} {k : Nat} {Q : β → Prop} {h0 h : AH} {b1 : Nat} {cv pv : Value} {cols : List ColD} {nd : NodeD}
theorem f44_val {inv : Inv} {K : Value → AH → Option β} (c0 : h.cell b1 0 = some (.int .i64 nd.op)) (hk : Tl (K (.bool (decide (2 ≤ nd.op ∧ nd.op ≤ 4))) h) Q) : Tl (G44_1 inv cv (.pointer (some ⟨b1, 0, none⟩)) h K) Q := by
  by_cases q : 2 ≤ nd.op ∧ nd.op ≤ 4
  · rw [decide_eq_true q] at hk
    by_cases q2 : nd.op = 2
    · repeat (first | (with_reducible apply Tl.val; focus (simp (disch := omega) only [coreA, Int.reduceBEq, base_Wl, c0] <;> with_reducible rfl)) | (with_reducible first | refine Tl.brT ?_ | refine Tl.brF ?_ | refine Tl.gd_on ?_ | refine Tl.gd3_on ?_) | ((with_reducible first | apply Tl.brC | apply Tl.gdC | apply Tl.gd3C); focus (simp (disch := omega) only [coreA, Int.reduceBEq, base_Wl, c0] <;> with_reducible rfl)))
      exact hk
    · by_cases q3 : nd.op = 3
      · repeat (first | (with_reducible apply Tl.val; focus (simp (disch := omega) only [coreA, Int.reduceBEq, base_Wl, c0] <;> with_reducible rfl)) | (with_reducible first | refine Tl.brT ?_ | refine Tl.brF ?_ | refine Tl.gd_on ?_ | refine Tl.gd3_on ?_) | ((with_reducible first | apply Tl.brC | apply Tl.gdC | apply Tl.gd3C); focus (simp (disch := omega) only [coreA, Int.reduceBEq, base_Wl, c0] <;> with_reducible rfl)))
        exact hk
      · repeat (first | (with_reducible apply Tl.val; focus (simp (disch := omega) only [coreA, Int.reduceBEq, base_Wl, c0] <;> with_reducible rfl)) | (with_reducible first | refine Tl.brT ?_ | refine Tl.brF ?_ | refine Tl.gd_on ?_ | refine Tl.gd3_on ?_) | ((with_reducible first | apply Tl.brC | apply Tl.gdC | apply Tl.gd3C); focus (simp (disch := omega) only [coreA, Int.reduceBEq, base_Wl, c0] <;> with_reducible rfl)))
        exact hk
  · rw [decide_eq_false q] at hk
    repeat (first | (with_reducible apply Tl.val; focus (simp (disch := omega) only [coreA, Int.reduceBEq, base_Wl, c0] <;> with_reducible rfl)) | (with_reducible first | refine Tl.brT ?_ | refine Tl.brF ?_ | refine Tl.gd_on ?_ | refine Tl.gd3_on ?_) | ((with_reducible first | apply Tl.brC | apply Tl.gdC | apply Tl.gd3C); focus (simp (disch := omega) only [coreA, Int.reduceBEq, base_Wl, c0] <;> with_reducible rfl)))
    exact hk
theorem f44_col {K : Value → AH → Option β} (C : Cols h cv cols) (hl : cols.length ≤ 9223372036854775807) (c0 : h.cell b1 0 = some (.int .i64 nd.op)) (c1 : h.cell b1 1 = some (.int .i64 nd.col)) (r3 : h.row b1 2 3 = some (crow nd.val))
    (ht : colOk cols nd = true ∧ (2 ≤ nd.op ∧ nd.op ≤ 4 ∨ nd.val = cellZ) → Tl (K (.bool false) h) Q) (hf : ¬ (colOk cols nd = true ∧ (2 ≤ nd.op ∧ nd.op ≤ 4 ∨ nd.val = cellZ)) → Tl (K (.bool true) h) Q) :
    Tl (G44_2 (eInv env (k + 1)) cv (.pointer (some ⟨b1, 0, none⟩)) (.bool (decide (2 ≤ nd.op ∧ nd.op ≤ 4))) h K) Q := by
  have hv : ∀ h', pLen Try.prog #[22] cv h' = some (.int .i64 cols.length) := fun h' => C.len
  have he : ∀ h, eInv env (k + 1) (.func 41) #[] #[.int .i64 nd.op] h = some (.bool (decide (2 ≤ nd.op ∧ nd.op ≤ 5)), h) := fun h => f41e (k := k) nd.op h
  have hz : ∀ x y, pBin Try.prog .neq 45 x y (.agg (crow nd.val).toArray) cellZ.v = some (.bool (!decide (nd.val = cellZ))) := fun x y => neqC nd.val cellZ
  unfold colOk at ht hf
  -- behind the column: the value
  by_cases q5 : 2 ≤ nd.op ∧ nd.op ≤ 5
  · rw [if_pos q5] at ht hf
    rw [decide_eq_true q5] at he
    by_cases q1 : 0 ≤ nd.col
    · by_cases q2 : nd.col < cols.length
      · rw [decide_eq_true ⟨q1, q2⟩] at ht hf
        by_cases q4 : nd.op ≤ 4
        · rw [decide_eq_true ⟨q5.1, q4⟩]
          repeat (first | (with_reducible apply Tl.val; focus (simp (disch := omega) only [coreA, Int.reduceBEq, base_Wl, c0, c1, he, hv] <;> with_reducible rfl)) | (with_reducible first | refine Tl.brT ?_ | refine Tl.brF ?_ | refine Tl.gd_on ?_ | refine Tl.gd3_on ?_) | ((with_reducible first | apply Tl.brC | apply Tl.gdC | apply Tl.gd3C); focus (simp (disch := omega) only [coreA, Int.reduceBEq, base_Wl, c0, c1, he, hv] <;> with_reducible rfl)))
          exact ht ⟨rfl, .inl ⟨q5.1, q4⟩⟩
        · rw [decide_eq_false (fun q => q4 q.2)]
          by_cases qz : nd.val = cellZ
          · rw [decide_eq_true qz] at hz
            repeat (first | (with_reducible apply Tl.val; focus (simp (disch := omega) only [coreA, Int.reduceBEq, base_Wl, c0, c1, he, hv, r3, bdC0, hz] <;> with_reducible rfl)) | (with_reducible first | refine Tl.brT ?_ | refine Tl.brF ?_ | refine Tl.gd_on ?_ | refine Tl.gd3_on ?_) | ((with_reducible first | apply Tl.brC | apply Tl.gdC | apply Tl.gd3C); focus (simp (disch := omega) only [coreA, Int.reduceBEq, base_Wl, c0, c1, he, hv, r3, bdC0, hz] <;> with_reducible rfl)))
            exact ht ⟨rfl, .inr qz⟩
          · rw [decide_eq_false qz] at hz
            repeat (first | (with_reducible apply Tl.val; focus (simp (disch := omega) only [coreA, Int.reduceBEq, base_Wl, c0, c1, he, hv, r3, bdC0, hz] <;> with_reducible rfl)) | (with_reducible first | refine Tl.brT ?_ | refine Tl.brF ?_ | refine Tl.gd_on ?_ | refine Tl.gd3_on ?_) | ((with_reducible first | apply Tl.brC | apply Tl.gdC | apply Tl.gd3C); focus (simp (disch := omega) only [coreA, Int.reduceBEq, base_Wl, c0, c1, he, hv, r3, bdC0, hz] <;> with_reducible rfl)))
            exact hf fun q => q.2.elim (fun q => q4 q.2) qz
      · rw [decide_eq_false (fun q => q2 q.2)] at hf
        repeat (first | (with_reducible apply Tl.val; focus (simp (disch := omega) only [coreA, Int.reduceBEq, base_Wl, c0, c1, he, hv] <;> with_reducible rfl)) | (with_reducible first | refine Tl.brT ?_ | refine Tl.brF ?_ | refine Tl.gd_on ?_ | refine Tl.gd3_on ?_) | ((with_reducible first | apply Tl.brC | apply Tl.gdC | apply Tl.gd3C); focus (simp (disch := omega) only [coreA, Int.reduceBEq, base_Wl, c0, c1, he, hv] <;> with_reducible rfl)))
        exact hf fun q => by cases q.1
    · rw [decide_eq_false (fun q => q1 q.1)] at hf
      repeat (first | (with_reducible apply Tl.val; focus (simp (disch := omega) only [coreA, Int.reduceBEq, base_Wl, c0, c1, he, hv] <;> with_reducible rfl)) | (with_reducible first | refine Tl.brT ?_ | refine Tl.brF ?_ | refine Tl.gd_on ?_ | refine Tl.gd3_on ?_) | ((with_reducible first | apply Tl.brC | apply Tl.gdC | apply Tl.gd3C); focus (simp (disch := omega) only [coreA, Int.reduceBEq, base_Wl, c0, c1, he, hv] <;> with_reducible rfl)))
      exact hf fun q => by cases q.1
  · rw [if_neg q5] at ht hf
    rw [decide_eq_false q5] at he
    rw [decide_eq_false (fun q => q5 ⟨q.1, by omega⟩)]
    by_cases q1 : nd.col = 0
    · rw [decide_eq_true q1] at ht hf
      by_cases qz : nd.val = cellZ
      · rw [decide_eq_true qz] at hz
        repeat (first | (with_reducible apply Tl.val; focus (simp (disch := omega) only [coreA, Int.reduceBEq, base_Wl, c0, c1, he, hv, r3, bdC0, hz] <;> with_reducible rfl)) | (with_reducible first | refine Tl.brT ?_ | refine Tl.brF ?_ | refine Tl.gd_on ?_ | refine Tl.gd3_on ?_) | ((with_reducible first | apply Tl.brC | apply Tl.gdC | apply Tl.gd3C); focus (simp (disch := omega) only [coreA, Int.reduceBEq, base_Wl, c0, c1, he, hv, r3, bdC0, hz] <;> with_reducible rfl)))
        exact ht ⟨rfl, .inr qz⟩
      · rw [decide_eq_false qz] at hz
        repeat (first | (with_reducible apply Tl.val; focus (simp (disch := omega) only [coreA, Int.reduceBEq, base_Wl, c0, c1, he, hv, r3, bdC0, hz] <;> with_reducible rfl)) | (with_reducible first | refine Tl.brT ?_ | refine Tl.brF ?_ | refine Tl.gd_on ?_ | refine Tl.gd3_on ?_) | ((with_reducible first | apply Tl.brC | apply Tl.gdC | apply Tl.gd3C); focus (simp (disch := omega) only [coreA, Int.reduceBEq, base_Wl, c0, c1, he, hv, r3, bdC0, hz] <;> with_reducible rfl)))
        exact hf fun q => q.2.elim (fun q => q5 ⟨q.1, by omega⟩) qz
    · rw [decide_eq_false q1] at hf
      repeat (first | (with_reducible apply Tl.val; focus (simp (disch := omega) only [coreA, Int.reduceBEq, base_Wl, c0, c1, he, hv] <;> with_reducible rfl)) | (with_reducible first | refine Tl.brT ?_ | refine Tl.brF ?_ | refine Tl.gd_on ?_ | refine Tl.gd3_on ?_) | ((with_reducible first | apply Tl.brC | apply Tl.gdC | apply Tl.gd3C); focus (simp (disch := omega) only [coreA, Int.reduceBEq, base_Wl, c0, c1, he, hv] <;> with_reducible rfl)))
      exact hf fun q => by cases q.1
theorem f44_value {n0 : Nat} {K : Value → AH → Option β} (C : Cols h cv cols) (hc : 2 ≤ nd.op ∧ nd.op ≤ 4 → 0 ≤ nd.col ∧ nd.col < cols.length) (S : Stt Try.prog n0 h0 h [(b1, .cells (nrow nd pv) 59 true)] [])
    (hz : 2 ≤ nd.op ∧ nd.op ≤ 4 ∨ nd.val = cellZ) (ht : ∀ h', valueOk cols nd = true → Stt Try.prog n0 h0 h' [(b1, .cells (nrow nd pv) 59 true)] [] → Tl (K (.bool false) h') Q) (hf : ∀ h', valueOk cols nd = false → Stt Try.prog n0 h0 h' [(b1, .cells (nrow nd pv) 59 true)] [] → Tl (K (.bool true) h') Q) :
    Tl (G44_4 (eInv env (k + 1)) cv (.pointer (some ⟨b1, 0, none⟩)) (.bool (decide (2 ≤ nd.op ∧ nd.op ≤ 4))) h K) Q := by
  have r3 : h.row b1 2 3 = some (crow nd.val) := S.part 0 rfl (by simp [nrow]) rfl
  unfold valueOk at ht hf
  by_cases q : 2 ≤ nd.op ∧ nd.op ≤ 4
  · rw [if_pos q] at ht hf
    rw [decide_eq_true q]
    obtain ⟨q1, q2⟩ := hc q
    obtain ⟨c, ec⟩ : ∃ x, cols[nd.col.toNat]? = some x := ⟨_, List.getElem?_eq_getElem (by omega)⟩
    obtain ⟨b, o, hp, hrow⟩ := C.at_ ec
    rw [show ((nd.col.toNat : Nat) : Int) = nd.col by omega] at hp
    rw [ec] at ht hf
    simp only at ht hf
    repeat (first | (with_reducible apply Tl.val; focus (simp (disch := omega) only [coreA, Int.reduceBEq, base_Wl, r3] <;> with_reducible rfl)) | (with_reducible first | refine Tl.brT ?_ | refine Tl.brF ?_ | refine Tl.gd_on ?_ | refine Tl.gd3_on ?_) | ((with_reducible first | apply Tl.brC | apply Tl.gdC | apply Tl.gd3C); focus (simp (disch := omega) only [coreA, Int.reduceBEq, base_Wl, r3] <;> with_reducible rfl)))
    refine Tl.call' S (f68c (k := k) nd.val h) fun h1 S1 g1 => ?_
    have c2 : h1.cell b1 2 = some (.int .i64 nd.val.k) := S1.cell 0 rfl rfl
    have c1 : h1.cell b1 1 = some (.int .i64 nd.col) := S1.cell 0 rfl rfl
    have d1 : h1.cell b (o + 1) = some (.int .i64 c.kind) := Ev.cell_of_row (j := 1) (g1.row hrow) (by omega)
    cases q3 : cellOk nd.val with
    | false =>
      rw [q3, Bool.false_and] at hf
      simp only [Bool.false_eq_true, if_false]
      repeat (first | (with_reducible apply Tl.val; focus (simp (disch := omega) only [coreA, Int.reduceBEq, base_Wl] <;> with_reducible rfl)) | (with_reducible first | refine Tl.brT ?_ | refine Tl.brF ?_ | refine Tl.gd_on ?_ | refine Tl.gd3_on ?_) | ((with_reducible first | apply Tl.brC | apply Tl.gdC | apply Tl.gd3C); focus (simp (disch := omega) only [coreA, Int.reduceBEq, base_Wl] <;> with_reducible rfl)))
      exact hf _ rfl S1
    | true =>
      rw [q3, Bool.true_and] at ht hf
      simp only [if_true]
      by_cases q4 : nd.val.k = c.kind
      · repeat (first | (with_reducible apply Tl.val; focus (simp (disch := omega) only [coreA, Int.reduceBEq, base_Wl, c1, c2, hp, d1] <;> with_reducible rfl)) | (with_reducible first | refine Tl.brT ?_ | refine Tl.brF ?_ | refine Tl.gd_on ?_ | refine Tl.gd3_on ?_) | ((with_reducible first | apply Tl.brC | apply Tl.gdC | apply Tl.gd3C); focus (simp (disch := omega) only [coreA, Int.reduceBEq, base_Wl, c1, c2, hp, d1] <;> with_reducible rfl)))
        exact ht _ (decide_eq_true q4) S1
      · repeat (first | (with_reducible apply Tl.val; focus (simp (disch := omega) only [coreA, Int.reduceBEq, base_Wl, c1, c2, hp, d1] <;> with_reducible rfl)) | (with_reducible first | refine Tl.brT ?_ | refine Tl.brF ?_ | refine Tl.gd_on ?_ | refine Tl.gd3_on ?_) | ((with_reducible first | apply Tl.brC | apply Tl.gdC | apply Tl.gd3C); focus (simp (disch := omega) only [coreA, Int.reduceBEq, base_Wl, c1, c2, hp, d1] <;> with_reducible rfl)))
        exact hf _ (decide_eq_false q4) S1
  · rw [if_neg q] at ht
    rw [decide_eq_false q]
    repeat (first | (with_reducible apply Tl.val; focus (simp (disch := omega) only [coreA, Int.reduceBEq, base_Wl] <;> with_reducible rfl)) | (with_reducible first | refine Tl.brT ?_ | refine Tl.brF ?_ | refine Tl.gd_on ?_ | refine Tl.gd3_on ?_) | ((with_reducible first | apply Tl.brC | apply Tl.gdC | apply Tl.gd3C); focus (simp (disch := omega) only [coreA, Int.reduceBEq, base_Wl] <;> with_reducible rfl)))
    exact ht _ (decide_eq_true (hz.resolve_left q)) S
end
theorem f44c {k : Nat} {h : AH} {cv : Value} {cols : List ColD} {nd : NodeD} {a : Option Addr} {cap : Nat} (C : Cols h cv cols) (hl : cols.length ≤ 9223372036854775807) :
    Tl (eInv env (k + 10) (.func 44) #[] #[cv, .agg (nrow nd (.slice a nd.parts.length cap)).toArray] h) fun r => r.1 = .bool (nodeOk cols nd) ∧ Grow h r.2 := by
  rw [F44_call]
  unfold F44
  refine Tl.box' (Stt.init h) rfl (by rw [sz59]; rfl) fun b1 h1 S1 g1 => ?_
  have S1 : Stt Try.prog h.n h h1 [(b1, .cells (nrow nd (.slice a nd.parts.length cap)) 59 true)] [] := S1
  have c0 : h1.cell b1 0 = some (.int .i64 nd.op) := S1.cell 0 rfl rfl
  have c1 : h1.cell b1 1 = some (.int .i64 nd.col) := S1.cell 0 rfl rfl
  have r3 : h1.row b1 2 3 = some (crow nd.val) := S1.part 0 rfl (by simp [nrow]) rfl
  refine f44_val c0 ?_
  refine f44_col (k := k + 8) (C.grow g1) hl c0 c1 r3 (fun hc => ?_) fun hc => ?_
  · repeat (first | (with_reducible apply Tl.val; focus (simp (disch := omega) only [coreA, Int.reduceBEq, base_Wl] <;> with_reducible rfl)) | (with_reducible first | refine Tl.brT ?_ | refine Tl.brF ?_ | refine Tl.gd_on ?_ | refine Tl.gd3_on ?_) | ((with_reducible first | apply Tl.brC | apply Tl.gdC | apply Tl.gd3C); focus (simp (disch := omega) only [coreA, Int.reduceBEq, base_Wl] <;> with_reducible rfl)))
    refine f44_value (k := k + 8) (C.grow g1) (fun q => ?_) S1 hc.2 (fun h3 q S3 => ?_) fun h3 q S3 => ?_
    · have := hc.1
      unfold colOk at this
      rw [if_pos ⟨q.1, by omega⟩] at this
      exact of_decide_eq_true this
    · have e5 : h3.cell b1 5 = some (.slice a nd.parts.length cap) := S3.cell 0 rfl rfl
      have e0 : h3.cell b1 0 = some (.int .i64 nd.op) := S3.cell 0 rfl rfl
      have hp : ∀ h' : AH, pLen Try.prog #[36] (.slice a nd.parts.length cap) h' = some (.int .i64 nd.parts.length) := fun h' => len_slice u36
      have en : nodeOk cols nd = partsOk nd.op nd.parts.length := by unfold nodeOk; rw [hc.1, q, Bool.true_and, Bool.true_and]
      rw [en]
      unfold F44_rllrlrrrr F44_rlrrlrlrrrr partsOk
      by_cases o1 : nd.op = 1
      · rw [if_pos (by omega)]
        repeat (first | (with_reducible apply Tl.val; focus (simp (disch := omega) only [coreA, Int.reduceBEq, base_Wl, e5, e0, hp] <;> with_reducible rfl)) | (with_reducible first | refine Tl.brT ?_ | refine Tl.brF ?_ | refine Tl.gd_on ?_ | refine Tl.gd3_on ?_) | ((with_reducible first | apply Tl.brC | apply Tl.gdC | apply Tl.gd3C); focus (simp (disch := omega) only [coreA, Int.reduceBEq, base_Wl, e5, e0, hp] <;> with_reducible rfl)))
        exact ⟨_, rfl, by by_cases hz : nd.parts.length = 0 <;> simp [hz], S3.grow⟩
      by_cases o2 : nd.op = 2
      · rw [if_pos (by omega)]
        repeat (first | (with_reducible apply Tl.val; focus (simp (disch := omega) only [coreA, Int.reduceBEq, base_Wl, e5, e0, hp] <;> with_reducible rfl)) | (with_reducible first | refine Tl.brT ?_ | refine Tl.brF ?_ | refine Tl.gd_on ?_ | refine Tl.gd3_on ?_) | ((with_reducible first | apply Tl.brC | apply Tl.gdC | apply Tl.gd3C); focus (simp (disch := omega) only [coreA, Int.reduceBEq, base_Wl, e5, e0, hp] <;> with_reducible rfl)))
        exact ⟨_, rfl, by by_cases hz : nd.parts.length = 0 <;> simp [hz], S3.grow⟩
      by_cases o3 : nd.op = 3
      · rw [if_pos (by omega)]
        repeat (first | (with_reducible apply Tl.val; focus (simp (disch := omega) only [coreA, Int.reduceBEq, base_Wl, e5, e0, hp] <;> with_reducible rfl)) | (with_reducible first | refine Tl.brT ?_ | refine Tl.brF ?_ | refine Tl.gd_on ?_ | refine Tl.gd3_on ?_) | ((with_reducible first | apply Tl.brC | apply Tl.gdC | apply Tl.gd3C); focus (simp (disch := omega) only [coreA, Int.reduceBEq, base_Wl, e5, e0, hp] <;> with_reducible rfl)))
        exact ⟨_, rfl, by by_cases hz : nd.parts.length = 0 <;> simp [hz], S3.grow⟩
      by_cases o4 : nd.op = 4
      · rw [if_pos (by omega)]
        repeat (first | (with_reducible apply Tl.val; focus (simp (disch := omega) only [coreA, Int.reduceBEq, base_Wl, e5, e0, hp] <;> with_reducible rfl)) | (with_reducible first | refine Tl.brT ?_ | refine Tl.brF ?_ | refine Tl.gd_on ?_ | refine Tl.gd3_on ?_) | ((with_reducible first | apply Tl.brC | apply Tl.gdC | apply Tl.gd3C); focus (simp (disch := omega) only [coreA, Int.reduceBEq, base_Wl, e5, e0, hp] <;> with_reducible rfl)))
        exact ⟨_, rfl, by by_cases hz : nd.parts.length = 0 <;> simp [hz], S3.grow⟩
      by_cases o5 : nd.op = 5
      · rw [if_pos (by omega)]
        repeat (first | (with_reducible apply Tl.val; focus (simp (disch := omega) only [coreA, Int.reduceBEq, base_Wl, e5, e0, hp] <;> with_reducible rfl)) | (with_reducible first | refine Tl.brT ?_ | refine Tl.brF ?_ | refine Tl.gd_on ?_ | refine Tl.gd3_on ?_) | ((with_reducible first | apply Tl.brC | apply Tl.gdC | apply Tl.gd3C); focus (simp (disch := omega) only [coreA, Int.reduceBEq, base_Wl, e5, e0, hp] <;> with_reducible rfl)))
        exact ⟨_, rfl, by by_cases hz : nd.parts.length = 0 <;> simp [hz], S3.grow⟩
      rw [if_neg (by omega)]
      by_cases o6 : nd.op = 6
      · rw [if_pos (by omega)]
        repeat (first | (with_reducible apply Tl.val; focus (simp (disch := omega) only [coreA, Int.reduceBEq, base_Wl, e5, e0, hp] <;> with_reducible rfl)) | (with_reducible first | refine Tl.brT ?_ | refine Tl.brF ?_ | refine Tl.gd_on ?_ | refine Tl.gd3_on ?_) | ((with_reducible first | apply Tl.brC | apply Tl.gdC | apply Tl.gd3C); focus (simp (disch := omega) only [coreA, Int.reduceBEq, base_Wl, e5, e0, hp] <;> with_reducible rfl)))
        exact ⟨_, rfl, by by_cases hz : nd.parts.length = 0 <;> simp [hz], S3.grow⟩
      by_cases o7 : nd.op = 7
      · rw [if_pos (by omega)]
        repeat (first | (with_reducible apply Tl.val; focus (simp (disch := omega) only [coreA, Int.reduceBEq, base_Wl, e5, e0, hp] <;> with_reducible rfl)) | (with_reducible first | refine Tl.brT ?_ | refine Tl.brF ?_ | refine Tl.gd_on ?_ | refine Tl.gd3_on ?_) | ((with_reducible first | apply Tl.brC | apply Tl.gdC | apply Tl.gd3C); focus (simp (disch := omega) only [coreA, Int.reduceBEq, base_Wl, e5, e0, hp] <;> with_reducible rfl)))
        exact ⟨_, rfl, by by_cases hz : nd.parts.length = 0 <;> simp [hz], S3.grow⟩
      rw [if_neg (by omega)]
      by_cases o8 : nd.op = 8
      · rw [if_pos (by omega)]
        repeat (first | (with_reducible apply Tl.val; focus (simp (disch := omega) only [coreA, Int.reduceBEq, base_Wl, e5, e0, hp] <;> with_reducible rfl)) | (with_reducible first | refine Tl.brT ?_ | refine Tl.brF ?_ | refine Tl.gd_on ?_ | refine Tl.gd3_on ?_) | ((with_reducible first | apply Tl.brC | apply Tl.gdC | apply Tl.gd3C); focus (simp (disch := omega) only [coreA, Int.reduceBEq, base_Wl, e5, e0, hp] <;> with_reducible rfl)))
        exact ⟨_, rfl, by by_cases hz : nd.parts.length = 1 <;> simp [hz] <;> omega, S3.grow⟩
      rw [if_neg (by omega)]
      repeat (first | (with_reducible apply Tl.val; focus (simp (disch := omega) only [coreA, Int.reduceBEq, base_Wl, e5, e0, hp] <;> with_reducible rfl)) | (with_reducible first | refine Tl.brT ?_ | refine Tl.brF ?_ | refine Tl.gd_on ?_ | refine Tl.gd3_on ?_) | ((with_reducible first | apply Tl.brC | apply Tl.gdC | apply Tl.gd3C); focus (simp (disch := omega) only [coreA, Int.reduceBEq, base_Wl, e5, e0, hp] <;> with_reducible rfl)))
      exact ⟨_, rfl, rfl, S3.grow⟩
    · have en : nodeOk cols nd = false := by unfold nodeOk; rw [q, Bool.false_and, Bool.and_false]
      repeat (first | (with_reducible apply Tl.val; focus (simp (disch := omega) only [coreA, Int.reduceBEq, base_Wl] <;> with_reducible rfl)) | (with_reducible first | refine Tl.brT ?_ | refine Tl.brF ?_ | refine Tl.gd_on ?_ | refine Tl.gd3_on ?_) | ((with_reducible first | apply Tl.brC | apply Tl.gdC | apply Tl.gd3C); focus (simp (disch := omega) only [coreA, Int.reduceBEq, base_Wl] <;> with_reducible rfl)))
      rw [en]
      exact ⟨_, rfl, rfl, S3.grow⟩
  · have en : nodeOk cols nd = false := by
      unfold nodeOk
      cases q1 : colOk cols nd with
      | false => rfl
      | true =>
        have : valueOk cols nd = false := by
          unfold valueOk
          by_cases q : 2 ≤ nd.op ∧ nd.op ≤ 4
          · exact absurd ⟨q1, .inl q⟩ hc
          · rw [if_neg q]
            exact decide_eq_false fun e => hc ⟨q1, .inr e⟩
        rw [this]; rfl
    repeat (first | (with_reducible apply Tl.val; focus (simp (disch := omega) only [coreA, Int.reduceBEq, base_Wl] <;> with_reducible rfl)) | (with_reducible first | refine Tl.brT ?_ | refine Tl.brF ?_ | refine Tl.gd_on ?_ | refine Tl.gd3_on ?_) | ((with_reducible first | apply Tl.brC | apply Tl.gdC | apply Tl.gd3C); focus (simp (disch := omega) only [coreA, Int.reduceBEq, base_Wl] <;> with_reducible rfl)))
    rw [en]
    exact ⟨_, rfl, rfl, S1.grow⟩
end Go.Proofs.Ytjmfokglckaneaa.Sh
