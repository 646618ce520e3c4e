/- The document's words of texts. -/
import Derived.Test.YtagcejlclcldcaaSzXd
set_option linter.unusedVariables false
set_option linter.unusedSimpArgs false
set_option maxRecDepth 100000
namespace Go.Proofs.Ytagcejlclcldcaa.Sh
open Go Go.RowKit Go.Proofs.Ev
theorem base_Xh : type_of% (And.intro @ld3 (And.intro @ld9 (And.intro @ld22 (@Nat.add_zero)))) := And.intro @ld3 (And.intro @ld9 (And.intro @ld22 (@Nat.add_zero)))
/-- A text put where it belongs. -/
theorem words_put {a : List ByteArray} {x : ByteArray} {k : Nat} (h1 : ∀ m, m < k → ∀ y, (wordsB a)[m]? = some y → ltB y x) (h2 : k = (wordsB a).length ∨ ∃ y, (wordsB a)[k]? = some y ∧ ¬ ltB y x) (h3 : (wordsB a)[k]? ≠ some x) (hk : k ≤ (wordsB a).length) :
    (wordsB a).take k ++ [x] ++ (wordsB a).drop k = wordsB (a ++ [x]) := by
  have hr := wordsB_rise a
  generalize hw : wordsB a = w at *
  have hmem : ∀ z, z ∈ w.take k ++ [x] ++ w.drop k ↔ z ∈ w ∨ z = x := fun z => by
    have e : z ∈ w ↔ z ∈ w.take k ∨ z ∈ w.drop k := by
      rw [← List.mem_append, List.take_append_drop]
    rw [e]
    simp only [List.mem_append, List.mem_singleton]
    constructor
    · rintro ((h | h) | h)
      · exact .inl (.inl h)
      · exact .inr h
      · exact .inl (.inr h)
    · rintro ((h | h) | h)
      · exact .inl (.inl h)
      · exact .inr h
      · exact .inl (.inr h)
  have below : ∀ y ∈ w.take k, ltB y x := fun y hy => by
    obtain ⟨m, hm⟩ := List.mem_iff_getElem?.1 hy
    rw [List.getElem?_take] at hm
    split at hm
    · exact h1 m (by assumption) y hm
    · cases hm
  have above : ∀ y ∈ w.drop k, ltB x y := fun y hy => by
    obtain ⟨m, hm⟩ := List.mem_iff_getElem?.1 hy
    rw [List.getElem?_drop] at hm
    have hlt := (List.getElem?_eq_some_iff.1 hm).1
    rcases h2 with h2 | ⟨z, hz, hn⟩
    · omega
    · have hne : z ≠ x := fun q => h3 (by rw [hz, q])
      have hxz := ltB_total hn hne
      by_cases q : m = 0
      · subst q
        rw [Nat.add_zero, hz] at hm
        cases hm
        exact hxz
      · obtain ⟨l1, e1⟩ := List.getElem?_eq_some_iff.1 hz
        obtain ⟨l2, e2⟩ := List.getElem?_eq_some_iff.1 hm
        have := List.pairwise_iff_getElem.1 hr _ _ l1 l2 (by omega)
        rw [e1, e2] at this
        exact ltB_trans hxz this
  refine rise_eq ?_ (wordsB_rise _) fun z => ?_
  · rw [List.append_assoc, List.pairwise_append]
    refine ⟨hr.sublist (List.take_sublist k w), ?_, fun y hy z hz => ?_⟩
    · rw [List.singleton_append, List.pairwise_cons]
      exact ⟨above, hr.sublist (List.drop_sublist k w)⟩
    · rcases List.mem_cons.1 hz with rfl | hz
      · exact below y hy
      · exact ltB_trans (below y hy) (above z hz)
  · rw [hmem, wordsB_mem, List.mem_append, List.mem_singleton, ← hw, wordsB_mem]
theorem words_have {a : List ByteArray} {x : ByteArray} {k : Nat} (h : (wordsB a)[k]? = some x) : wordsB a = wordsB (a ++ [x]) := wordsB_of fun z => by
  rw [List.mem_append, List.mem_singleton]
  constructor
  · exact .inl
  · rintro (h2 | rfl)
    · exact h2
    · exact wordsB_mem.1 (List.mem_of_getElem? h)
section
variable {β : Type} {Q : β → Prop} {n0 : Nat} {h0 h : AH} {L : List (Nat × AO)} {O : List OS}
theorem f25_in {inv : Inv} {k : Nat} {v ov : Value} {l w : List ByteArray} {i : Nat} {x : ByteArray} (A : Strs h v l) (W : Strs h ov w) (ex : l[i]? = some x) (hw : w.length ≤ 2 ^ 40) {ke2 : Value → Value → Value → Value → Value → AH → Option β} (n : Nat) :
    ∀ {m j : Nat}, m + n = w.length → n < j → (∀ p, p < m → ∀ y, w[p]? = some y → ltB y x) →
      (∀ (k : Nat) y1, k ≤ w.length → (∀ p, p < k → ∀ y, w[p]? = some y → ltB y x) → (k = w.length ∨ ∃ y, w[k]? = some y ∧ ¬ ltB y x) → Tl (ke2 v ov (.int .i64 i) (.int .i64 k) y1 h) Q) →
      Tl (F25_llrllrllrlrr inv k j v ov (.int .i64 i) (.int .i64 m) h ke2) Q := by
  have hv : ∀ h', pLen Try.prog #[22] ov h' = some (.int .i64 w.length) := fun h' => W.len
  induction n with
  | zero =>
    intro m j hm hj hb hk
    obtain ⟨j, rfl⟩ : ∃ q, j = q + 1 := ⟨j - 1, by omega⟩
    simp only [F25_llrllrllrlrr, G25_6]
    repeat (first | (with_reducible apply Tl.val; focus (simp (disch := omega) only [coreA, Int.reduceBEq, base_Xh, hv] <;> with_reducible rfl)) | (with_reducible first | refine Tl.brT ?_ | refine Tl.brF ?_ | refine Tl.gd_on ?_ | refine Tl.gd3_on ?_) | ((with_reducible first | apply Tl.brC | apply Tl.gdC | apply Tl.gd3C); focus (simp (disch := omega) only [coreA, Int.reduceBEq, base_Xh, hv] <;> with_reducible rfl)))
    exact hk m _ (by omega) hb (.inl (by omega))
  | succ n ih =>
    intro m j hm hj hb hk
    obtain ⟨j, rfl⟩ : ∃ q, j = q + 1 := ⟨j - 1, by omega⟩
    obtain ⟨y, ey⟩ : ∃ y, w[m]? = some y := ⟨_, List.getElem?_eq_getElem (by omega)⟩
    obtain ⟨b1, o1, hp1, hc1⟩ := W.at_ (k := .i64) ey
    obtain ⟨b2, o2, hp2, hc2⟩ := A.at_ (k := .i64) ex
    have hc1 := hc1 h (Grow.refl _)
    have hc2 := hc2 h (Grow.refl _)
    have hq : ∀ ox oy, pBin Try.prog .lss 9 ox oy (.string y) (.string x) = some (.bool (decide (ltB y x))) := fun _ _ => str_lt
    have e : (m : Int) + 1 = ((m + 1 : Nat) : Int) := by omega
    simp only [F25_llrllrllrlrr, G25_6]
    by_cases q : ltB y x
    · rw [decide_eq_true q] at hq
      repeat (first | (with_reducible apply Tl.val; focus (simp (disch := omega) only [coreA, Int.reduceBEq, base_Xh, hv, hp1, hc1, hp2, hc2, hq] <;> with_reducible rfl)) | (with_reducible first | refine Tl.brT ?_ | refine Tl.brF ?_ | refine Tl.gd_on ?_ | refine Tl.gd3_on ?_) | ((with_reducible first | apply Tl.brC | apply Tl.gdC | apply Tl.gd3C); focus (simp (disch := omega) only [coreA, Int.reduceBEq, base_Xh, hv, hp1, hc1, hp2, hc2, hq] <;> with_reducible rfl)))
      rw [e]
      refine ih (by omega) (by omega) (fun p hp z hz => ?_) hk
      by_cases q2 : p = m
      · subst q2
        rw [ey] at hz
        cases hz
        exact q
      · exact hb p (by omega) z hz
    · rw [decide_eq_false q] at hq
      repeat (first | (with_reducible apply Tl.val; focus (simp (disch := omega) only [coreA, Int.reduceBEq, base_Xh, hv, hp1, hc1, hp2, hc2, hq] <;> with_reducible rfl)) | (with_reducible first | refine Tl.brT ?_ | refine Tl.brF ?_ | refine Tl.gd_on ?_ | refine Tl.gd3_on ?_) | ((with_reducible first | apply Tl.brC | apply Tl.gdC | apply Tl.gd3C); focus (simp (disch := omega) only [coreA, Int.reduceBEq, base_Xh, hv, hp1, hc1, hp2, hc2, hq] <;> with_reducible rfl)))
      exact hk m _ (by omega) hb (.inr ⟨y, ey, q⟩)
theorem f25_ins {inv : Inv} {v ov : Value} {l w : List ByteArray} {i k : Nat} {x : ByteArray} (S : Stt Try.prog n0 h0 h L ((ov, 1, srows w) :: O)) (A : Strs h v l) (ex : l[i]? = some x) (hk : k ≤ w.length) (hw : w.length ≤ 2 ^ 30) {K : Value → AH → Option β}
    (hK : ∀ nv h', Stt Try.prog n0 h0 h' L ((nv, 1, srows (w.take k ++ [x] ++ w.drop k)) :: O) → Tl (K nv h') Q) : Tl (G25_9 inv v ov (.int .i64 i) (.int .i64 k) h K) Q := by
  have W := S.slV 0 rfl
  obtain ⟨t1, s1, Z1, v1⟩ := (SlV.z W).take u22 sz9 (k := .i64) (i := k) (by rw [srows_len]; exact hk)
  obtain ⟨t2, s2, Z2⟩ := W.dropK (S.szV 0 rfl) u22 sz9 (k := .i64) (i := k) (by rw [srows_len]; exact hk)
  have v2 := slV_same Z2
  obtain ⟨b, o, hp, hc⟩ := A.at_ (k := .i64) ex
  have r1 : (srows w).take k = srows (w.take k) := by simp [srows, List.map_take]
  have r2 : (srows w).drop k = srows (w.drop k) := by simp [srows, List.map_drop]
  rw [r1] at Z1
  rw [r2] at Z2
  simp only [G25_9]
  have S1 := sttS (Stt.init h : Stt Try.prog h.n h h [] [])
  have c1 := hc _ S1.grow
  have S2 : Stt Try.prog h.n h ((h.alloc (.cells [] 9 true)).alloc (.cells [.string x] 9 true)) _ _ := S1.alloc (.cells [.string x] 9 true)
  have c2 := hc _ S2.grow
  have c0 := hc h (Grow.refl _)
  have d0 := s2 h (Grow.refl _)
  have d1 := s2 _ S1.grow
  have d2 := s2 _ S2.grow
  repeat (first | (with_reducible apply Tl.val; focus (simp (disch := omega) only [coreA, Int.reduceBEq, base_Xh, bsS0, bs22, hp, c1, s1] <;> with_reducible rfl)) | (with_reducible first | refine Tl.brT ?_ | refine Tl.brF ?_ | refine Tl.gd_on ?_ | refine Tl.gd3_on ?_) | ((with_reducible first | apply Tl.brC | apply Tl.gdC | apply Tl.gd3C); focus (simp (disch := omega) only [coreA, Int.reduceBEq, base_Xh, bsS0, bs22, hp, c1, s1] <;> with_reducible rfl)))
  obtain ⟨v3, h3, e3, S3⟩ := S2.appendZ 0 rfl app22 (Z1.grow S2.grow) (by rw [srows_len]; simp; omega) (one_srows _)
  have S3 : Stt Try.prog h.n h h3 [((h.alloc (.cells [] 9 true)).n, .cells [.string x] 9 true)] [(v3, 1, srows (w.take k))] := S3
  have c3 := hc _ S3.grow
  have d3 := s2 _ S3.grow
  repeat (first | (with_reducible apply Tl.val; focus (simp (disch := omega) only [coreA, Int.reduceBEq, base_Xh, e3] <;> with_reducible rfl)) | (with_reducible first | refine Tl.brT ?_ | refine Tl.brF ?_ | refine Tl.gd_on ?_ | refine Tl.gd3_on ?_) | ((with_reducible first | apply Tl.brC | apply Tl.gdC | apply Tl.gd3C); focus (simp (disch := omega) only [coreA, Int.reduceBEq, base_Xh, e3] <;> with_reducible rfl)))
  have B4 := S3.lit 0 (n := 1) rfl rfl
  obtain ⟨v4, h4, e4, S4, _, _⟩ := S3.append 0 rfl app22 B4 (by rw [srows_len]; simp; omega) rfl
  have S4 : Stt Try.prog h.n h h4 [((h.alloc (.cells [] 9 true)).n, .cells [.string x] 9 true)] [(v4, 1, srows (w.take k ++ [x]))] := by rw [srows_app]; exact S4
  have c4 := hc _ S4.grow
  have d4 := s2 _ S4.grow
  repeat (first | (with_reducible apply Tl.val; focus (simp (disch := omega) only [coreA, Int.reduceBEq, base_Xh, e4, d4] <;> with_reducible rfl)) | (with_reducible first | refine Tl.brT ?_ | refine Tl.brF ?_ | refine Tl.gd_on ?_ | refine Tl.gd3_on ?_) | ((with_reducible first | apply Tl.brC | apply Tl.gdC | apply Tl.gd3C); focus (simp (disch := omega) only [coreA, Int.reduceBEq, base_Xh, e4, d4] <;> with_reducible rfl)))
  obtain ⟨v5, h5, e5, S5, _, _⟩ := S4.append 0 rfl app22 (Z2.grow S4.grow) (by rw [srows_len, srows_len]; simp; omega) (one_srows _)
  have S5 : Stt Try.prog h.n h h5 [((h.alloc (.cells [] 9 true)).n, .cells [.string x] 9 true)] [(v5, 1, srows (w.take k ++ [x] ++ w.drop k))] := by rw [srows_app]; exact S5
  repeat (first | (with_reducible apply Tl.val; focus (simp (disch := omega) only [coreA, Int.reduceBEq, base_Xh, e5] <;> with_reducible rfl)) | (with_reducible first | refine Tl.brT ?_ | refine Tl.brF ?_ | refine Tl.gd_on ?_ | refine Tl.gd3_on ?_) | ((with_reducible first | apply Tl.brC | apply Tl.gdC | apply Tl.gd3C); focus (simp (disch := omega) only [coreA, Int.reduceBEq, base_Xh, e5] <;> with_reducible rfl)))
  refine Tl.chk ?_ ?_
  · simp only [ld9, c0, c1, c2, c3, s1, d0, d1, d2, d3, d4, sameO_some, sameV_string, v1, v2, Bool.and_self, Bool.or_true, Bool.not_true, Bool.false_or]
  exact hK v5 h5 ((S.join S5.drop).keepO (.cons_cons _ (.cons _ (List.Sublist.refl _))))
theorem f25_loop {inv : Inv} {k : Nat} {v : Value} {l : List ByteArray} (A : Strs h0 v l) (hl : l.length ≤ 2 ^ 29) (hk' : l.length < k) {ke0 : Value → Value → Value → Value → AH → Option β} (n : Nat) :
    ∀ {i j : Nat} {h : AH} {ov : Value}, i + n = l.length → n < j → Stt Try.prog h0.n h0 h [] [(ov, 1, srows (wordsB (l.take i)))] →
      (∀ h' y y1 y2, Stt Try.prog h0.n h0 h' [] [(y, 1, srows (wordsB l))] → Tl (ke0 v y y1 y2 h') Q) →
      Tl (F25_lrlrr inv k j v ov (.int .i64 i) h ke0) Q := by
  have hv : ∀ h', pLen Try.prog #[22] v h' = some (.int .i64 l.length) := fun h' => A.len
  induction n with
  | zero =>
    intro i j h ov hi hj S hk
    obtain ⟨j, rfl⟩ : ∃ q, j = q + 1 := ⟨j - 1, by omega⟩
    simp only [F25_lrlrr]
    repeat (first | (with_reducible apply Tl.val; focus (simp (disch := omega) only [coreA, Int.reduceBEq, base_Xh, hv] <;> with_reducible rfl)) | (with_reducible first | refine Tl.brT ?_ | refine Tl.brF ?_ | refine Tl.gd_on ?_ | refine Tl.gd3_on ?_) | ((with_reducible first | apply Tl.brC | apply Tl.gdC | apply Tl.gd3C); focus (simp (disch := omega) only [coreA, Int.reduceBEq, base_Xh, hv] <;> with_reducible rfl)))
    rw [List.take_of_length_le (by omega)] at S
    exact hk _ _ _ _ S
  | succ n ih =>
    intro i j h ov hi hj S hk
    obtain ⟨j, rfl⟩ : ∃ q, j = q + 1 := ⟨j - 1, by omega⟩
    obtain ⟨x, ex⟩ : ∃ x, l[i]? = some x := ⟨_, List.getElem?_eq_getElem (by omega)⟩
    have ht : l.take (i + 1) = l.take i ++ [x] := by rw [List.take_add_one, ex]; rfl
    have e : (i : Int) + 1 = ((i + 1 : Nat) : Int) := by omega
    have hwl := wordsB_len (l.take i)
    have hwl2 : (wordsB (l.take i)).length ≤ l.length := by rw [List.length_take] at hwl; omega
    have Ah := A.grow S.grow
    have W := Stt.strs S 0 rfl
    have lw : ∀ h', pLen Try.prog #[22] ov h' = some (.int .i64 (wordsB (l.take i)).length) := fun h' => W.len
    obtain ⟨b2, o2, hp2, hc2⟩ := Ah.at_ (k := .i64) ex
    have hc2 := hc2 h (Grow.refl _)
    simp only [F25_lrlrr]
    repeat (first | (with_reducible apply Tl.val; focus (simp (disch := omega) only [coreA, Int.reduceBEq, base_Xh, hv] <;> with_reducible rfl)) | (with_reducible first | refine Tl.brT ?_ | refine Tl.brF ?_ | refine Tl.gd_on ?_ | refine Tl.gd3_on ?_) | ((with_reducible first | apply Tl.brC | apply Tl.gdC | apply Tl.gd3C); focus (simp (disch := omega) only [coreA, Int.reduceBEq, base_Xh, hv] <;> with_reducible rfl)))
    unfold F25_lrllrlrr
    refine f25_in Ah W ex (by omega) (wordsB (l.take i)).length (m := 0) (by omega) (by omega) (fun p hp => by omega) fun k' y1 hk1 h1 h2 => ?_
    simp only [G25_8]
    by_cases q1 : k' = (wordsB (l.take i)).length
    · have hn : (wordsB (l.take i))[k']? ≠ some x := by rw [List.getElem?_eq_none (by omega)]; simp
      have key := words_put h1 h2 hn hk1
      repeat (first | (with_reducible apply Tl.val; focus (simp (disch := omega) only [coreA, Int.reduceBEq, base_Xh, lw] <;> with_reducible rfl)) | (with_reducible first | refine Tl.brT ?_ | refine Tl.brF ?_ | refine Tl.gd_on ?_ | refine Tl.gd3_on ?_) | ((with_reducible first | apply Tl.brC | apply Tl.gdC | apply Tl.gd3C); focus (simp (disch := omega) only [coreA, Int.reduceBEq, base_Xh, lw] <;> with_reducible rfl)))
      refine f25_ins S Ah ex hk1 (by omega) fun nv h' S' => ?_
      rw [key, ← ht] at S'
      repeat (first | (with_reducible apply Tl.val; focus (simp (disch := omega) only [coreA, Int.reduceBEq, base_Xh] <;> with_reducible rfl)) | (with_reducible first | refine Tl.brT ?_ | refine Tl.brF ?_ | refine Tl.gd_on ?_ | refine Tl.gd3_on ?_) | ((with_reducible first | apply Tl.brC | apply Tl.gdC | apply Tl.gd3C); focus (simp (disch := omega) only [coreA, Int.reduceBEq, base_Xh] <;> with_reducible rfl)))
      rw [e]
      exact ih (by omega) (by omega) S' hk
    · obtain ⟨y, ey⟩ : ∃ y, (wordsB (l.take i))[k']? = some y := ⟨_, List.getElem?_eq_getElem (by omega)⟩
      obtain ⟨b1, o1, hp1, hc1⟩ := W.at_ (k := .i64) ey
      have hc1 := hc1 h (Grow.refl _)
      have hq : ∀ ox oy, pBin Try.prog .neq 9 ox oy (.string y) (.string x) = some (.bool (!decide (y = x))) := fun _ _ => ne_s
      by_cases q2 : y = x
      · have hq2 : (!decide (y = x)) = false := by simp [q2]
        rw [hq2] at hq
        have key := words_have (x := x) (by rw [ey, q2])
        repeat (first | (with_reducible apply Tl.val; focus (simp (disch := omega) only [coreA, Int.reduceBEq, base_Xh, lw, hp1, hc1, hp2, hc2, hq] <;> with_reducible rfl)) | (with_reducible first | refine Tl.brT ?_ | refine Tl.brF ?_ | refine Tl.gd_on ?_ | refine Tl.gd3_on ?_) | ((with_reducible first | apply Tl.brC | apply Tl.gdC | apply Tl.gd3C); focus (simp (disch := omega) only [coreA, Int.reduceBEq, base_Xh, lw, hp1, hc1, hp2, hc2, hq] <;> with_reducible rfl)))
        rw [e]
        rw [key, ← ht] at S
        exact ih (by omega) (by omega) S hk
      · have hq2 : (!decide (y = x)) = true := by simp [q2]
        rw [hq2] at hq
        have key := words_put h1 h2 (by rw [ey]; simp [q2]) hk1
        repeat (first | (with_reducible apply Tl.val; focus (simp (disch := omega) only [coreA, Int.reduceBEq, base_Xh, lw, hp1, hc1, hp2, hc2, hq] <;> with_reducible rfl)) | (with_reducible first | refine Tl.brT ?_ | refine Tl.brF ?_ | refine Tl.gd_on ?_ | refine Tl.gd3_on ?_) | ((with_reducible first | apply Tl.brC | apply Tl.gdC | apply Tl.gd3C); focus (simp (disch := omega) only [coreA, Int.reduceBEq, base_Xh, lw, hp1, hc1, hp2, hc2, hq] <;> with_reducible rfl)))
        refine f25_ins S Ah ex hk1 (by omega) fun nv h' S' => ?_
        rw [key, ← ht] at S'
        repeat (first | (with_reducible apply Tl.val; focus (simp (disch := omega) only [coreA, Int.reduceBEq, base_Xh] <;> with_reducible rfl)) | (with_reducible first | refine Tl.brT ?_ | refine Tl.brF ?_ | refine Tl.gd_on ?_ | refine Tl.gd3_on ?_) | ((with_reducible first | apply Tl.brC | apply Tl.gdC | apply Tl.gd3C); focus (simp (disch := omega) only [coreA, Int.reduceBEq, base_Xh] <;> with_reducible rfl)))
        rw [e]
        exact ih (by omega) (by omega) S' hk
theorem f25c {k : Nat} {v : Value} {l : List ByteArray} (A : Strs h v l) (hl : l.length ≤ 2 ^ 29) (hk : l.length < k) :
    Tl (eInv env (k + 1) (.func 25) #[] #[v] h) fun r => Stt Try.prog h.n h r.2 [] [(r.1, 1, srows (wordsB l))] := by
  rw [F25_call]
  unfold F25
  refine f25_loop A hl hk l.length (i := 0) (by omega) hk ((Stt.init h).nil 1) fun h' y y1 y2 S => ?_
  exact ⟨_, rfl, S⟩
end
end Go.Proofs.Ytagcejlclcldcaa.Sh
