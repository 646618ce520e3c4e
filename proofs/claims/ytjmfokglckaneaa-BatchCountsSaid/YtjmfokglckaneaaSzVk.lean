/- Which predicates may be: 'pred.Check'. -/
import Derived.Test.YtjmfokglckaneaaSzVj
set_option linter.unusedVariables false
set_option linter.unusedSimpArgs false
set_option maxRecDepth 100000
namespace Go.Proofs.Ytjmfokglckaneaa.Sh
open Go Go.RowKit Go.Proofs.Ev
theorem base_Vk : type_of% (And.intro @ld3 (And.intro @ld36 (And.intro @ld59 (And.intro @fa59_0 (And.intro @fa59_1 (And.intro @fa59_2 (And.intro @fa59_3 (@Nat.add_zero)))))))) := And.intro @ld3 (And.intro @ld36 (And.intro @ld59 (And.intro @fa59_0 (And.intro @fa59_1 (And.intro @fa59_2 (And.intro @fa59_3 (@Nat.add_zero)))))))
/-! ### 'slices.ContainsFunc' of numbers -/
theorem f85_loop {β : Type} {k : Nat} {Q : β → Prop} {h : AH} {v fv : Value} {l : List Int} {p : Int → Bool} (S : IntsZ h v l) (hl : l.length ≤ 2 ^ 40)
    (hcall : ∀ c, callV (eInv env k) fv #[.int .i64 c] h = some (.bool (p c), h)) {ke0 : Value → Value → Value → Value → Value → AH → Option β} {kr : Value → AH → Option β} (n : Nat) :
    ∀ {i j : Nat}, i + n = l.length → n < j → ((l.drop i).any p = false → ∀ y1 y2 y3 y4 y5, Tl (ke0 y1 y2 y3 y4 y5 h) Q) → ((l.drop i).any p = true → ∀ m : Nat, Tl (kr (.int .i64 (m : Nat)) h) Q) →
      Tl (F85_lrlr (eInv env k) k j v fv (.int .i64 l.length) (.int .i64 i) h ke0 kr) Q := by
  induction n with
  | zero =>
    intro i j hi hj hk hr
    obtain ⟨j, rfl⟩ : ∃ q, j = q + 1 := ⟨j - 1, by omega⟩
    simp only [F85_lrlr]
    repeat (first | (with_reducible apply Tl.val; focus (simp (disch := omega) only [coreA, Int.reduceBEq, base_Vk] <;> with_reducible rfl)) | (with_reducible first | refine Tl.brT ?_ | refine Tl.brF ?_ | refine Tl.gd_on ?_ | refine Tl.gd3_on ?_) | ((with_reducible first | apply Tl.brC | apply Tl.gdC | apply Tl.gd3C); focus (simp (disch := omega) only [coreA, Int.reduceBEq, base_Vk] <;> with_reducible rfl)))
    exact hk (by rw [List.drop_eq_nil_of_le (by omega)]; rfl) _ _ _ _ _
  | succ n ih =>
    intro i j hi hj hk hr
    obtain ⟨j, rfl⟩ : ∃ q, j = q + 1 := ⟨j - 1, by omega⟩
    obtain ⟨x, ex⟩ : ∃ x, l[i]? = some x := ⟨_, List.getElem?_eq_getElem (by omega)⟩
    obtain ⟨b, o, hp, hc⟩ := S.at_ ex
    have e : (i : Int) + 1 = ((i + 1 : Nat) : Int) := by omega
    have hcx := hcall x
    rw [drop_at ex, List.any_cons] at hk hr
    simp only [F85_lrlr]
    cases q : p x with
    | true =>
      rw [q] at hcx
      rw [q, Bool.true_or] at hr
      repeat (first | (with_reducible apply Tl.val; focus (simp (disch := omega) only [coreA, Int.reduceBEq, base_Vk, hp, hc, hcx] <;> with_reducible rfl)) | (with_reducible first | refine Tl.brT ?_ | refine Tl.brF ?_ | refine Tl.gd_on ?_ | refine Tl.gd3_on ?_) | ((with_reducible first | apply Tl.brC | apply Tl.gdC | apply Tl.gd3C); focus (simp (disch := omega) only [coreA, Int.reduceBEq, base_Vk, hp, hc, hcx] <;> with_reducible rfl)))
      exact hr rfl i
    | false =>
      rw [q] at hcx
      rw [q, Bool.false_or] at hk hr
      repeat (first | (with_reducible apply Tl.val; focus (simp (disch := omega) only [coreA, Int.reduceBEq, base_Vk, hp, hc, hcx] <;> with_reducible rfl)) | (with_reducible first | refine Tl.brT ?_ | refine Tl.brF ?_ | refine Tl.gd_on ?_ | refine Tl.gd3_on ?_) | ((with_reducible first | apply Tl.brC | apply Tl.gdC | apply Tl.gd3C); focus (simp (disch := omega) only [coreA, Int.reduceBEq, base_Vk, hp, hc, hcx] <;> with_reducible rfl)))
      rw [e]
      exact ih (by omega) (by omega) hk hr
theorem f73e {k : Nat} {h : AH} {v fv : Value} {l : List Int} {p : Int → Bool} (S : IntsZ h v l) (hl : l.length ≤ 2 ^ 40) (hk : l.length < k) (hcall : ∀ c, callV (eInv env k) fv #[.int .i64 c] h = some (.bool (p c), h)) :
    eInv env (k + 2) (.func 73) #[] #[v, fv] h = some (.bool (l.any p), h) := by
  rw [F73_call]
  unfold F73
  have hv : ∀ h', pLen Try.prog #[36] v h' = some (.int .i64 l.length) := fun h' => S.len
  have T : Tl (F85 (eInv env k) k v fv h) fun r => r.2 = h ∧ ∃ z : Int, r.1 = .int .i64 z ∧ (decide (z ≥ 0)) = l.any p := by
    unfold F85
    repeat (first | (with_reducible apply Tl.val; focus (simp (disch := omega) only [coreA, Int.reduceBEq, base_Vk, hv] <;> with_reducible rfl)) | (with_reducible first | refine Tl.brT ?_ | refine Tl.brF ?_ | refine Tl.gd_on ?_ | refine Tl.gd3_on ?_) | ((with_reducible first | apply Tl.brC | apply Tl.gdC | apply Tl.gd3C); focus (simp (disch := omega) only [coreA, Int.reduceBEq, base_Vk, hv] <;> with_reducible rfl)))
    refine f85_loop S hl hcall l.length (i := 0) (by omega) hk (fun q y1 y2 y3 y4 y5 => ?_) fun q m => ?_
    · exact ⟨_, rfl, rfl, _, rfl, by rw [List.drop_zero] at q; rw [q]; rfl⟩
    · exact ⟨_, rfl, rfl, _, rfl, by rw [List.drop_zero] at q; rw [q]; simp⟩
  obtain ⟨⟨r1, r2⟩, h1, h2, z, h3, h4⟩ := T
  simp only at h2 h3
  subst h2 h3
  rw [F85_call, h1]
  simp only [bnd_some, bin_geq, h4]
theorem f74e {k : Nat} (n : Int) (h : AH) : callV (eInv env (k + 1)) (.func (.func 74) #[] #[]) #[.int .i64 n] h = some (.bool (n != 1), h) := by
  rw [callV_fn1, F74_call]
  unfold F74
  simp only [bin_neq, bnd_some]
/-! ### How often nodes are used -/
def usePs (i : Nat) : List Int → List Int → Option (List Int)
  | [], u => some u
  | n :: ns, u => if 0 ≤ n ∧ n < i then usePs i ns (u.set n.toNat ((u[n.toNat]?).getD 0 + 1)) else none
def checkF (cols : List ColD) : Nat → List NodeD → List Int → Option (List Int)
  | _, [], u => some u
  | i, nd :: l, u => if nodeOk cols nd then (usePs i nd.parts u).bind (checkF cols (i + 1) l) else none
def predOk (cols : List ColD) (l : List NodeD) : Bool :=
  colsOk cols && (decide (l.length ≤ 64) && match checkF cols 0 l (List.replicate l.length 0) with
    | none => false
    | some u => !((u.take (l.length - 1)).any fun n => n != 1))
theorem f56_in {β : Type} {inv : Inv} {k : Nat} {Q : β → Prop} {h0 : AH} {L : List (Nat × AO)} {cv v pv uv x22 x23 x24 : Value} {ns : List Int} {i len : Nat} (N : IntsZ h0 pv ns) (hil : i < len) (hlen : len ≤ 64) (hns : ns.length ≤ 1000)
    {ke2 : Value → Value → Value → Value → Value → Value → Value → Value → Value → Value → Value → AH → Option β} {kr : Value → AH → Option β} (n : Nat) :
    ∀ {q j : Nat} {us : List Int} {M : Nat} {h : AH}, q + n = ns.length → n < j → us.length = len → M ≤ 2 ^ 50 → (∀ u ∈ us, 0 ≤ u ∧ u ≤ M + q) → Stt Try.prog h0.n h0 h L [(uv, 1, irows us)] →
      (∀ us', usePs i (ns.drop q) us = some us' → us'.length = len → (∀ u ∈ us', 0 ≤ u ∧ u ≤ M + ns.length) → ∀ y1 y2 y3 y4 h', Stt Try.prog h0.n h0 h' L [(uv, 1, irows us')] → Tl (ke2 cv v uv (.int .i64 i) x22 x23 x24 y1 y2 y3 y4 h') Q) →
      (usePs i (ns.drop q) us = none → ∀ h', Grow h0 h' → Tl (kr (.int .i64 180) h') Q) →
      Tl (F56_lrrrllrrllrlrrrr inv k j cv v uv (.int .i64 i) x22 x23 x24 pv (.int .i64 ns.length) (.int .i64 q) h ke2 kr) Q := by
  induction n with
  | zero =>
    intro q j us M h hq hj hu hM hb S hk hr
    obtain ⟨j, rfl⟩ : ∃ q, j = q + 1 := ⟨j - 1, by omega⟩
    simp only [F56_lrrrllrrllrlrrrr]
    repeat (first | (with_reducible apply Tl.val; focus (simp (disch := omega) only [coreA, Int.reduceBEq, base_Vk] <;> with_reducible rfl)) | (with_reducible first | refine Tl.brT ?_ | refine Tl.brF ?_ | refine Tl.gd_on ?_ | refine Tl.gd3_on ?_) | ((with_reducible first | apply Tl.brC | apply Tl.gdC | apply Tl.gd3C); focus (simp (disch := omega) only [coreA, Int.reduceBEq, base_Vk] <;> with_reducible rfl)))
    refine hk us (by rw [List.drop_eq_nil_of_le (by omega)]; rfl) hu (fun u hu' => ?_) _ _ _ _ _ S
    have := hb u hu'
    omega
  | succ n ih =>
    intro q j us M h hq hj hu hM hb S hk hr
    obtain ⟨j, rfl⟩ : ∃ q, j = q + 1 := ⟨j - 1, by omega⟩
    obtain ⟨x, ex⟩ : ∃ x, ns[q]? = some x := ⟨_, List.getElem?_eq_getElem (by omega)⟩
    obtain ⟨b, o, hp, hc⟩ := N.at_ ex
    have hc1 := S.grow.cell hc
    have e : (q : Int) + 1 = ((q + 1 : Nat) : Int) := by omega
    rw [drop_at ex, usePs] at hk hr
    simp only [F56_lrrrllrrllrlrrrr]
    by_cases q0 : 0 ≤ x
    · by_cases q1 : x < i
      · rw [if_pos ⟨q0, q1⟩] at hk hr
        obtain ⟨w, ew⟩ : ∃ w, us[x.toNat]? = some w := ⟨_, List.getElem?_eq_getElem (by omega)⟩
        have hw := hb w (List.mem_of_getElem? ew)
        rw [ew] at hk hr
        simp only [Option.getD_some] at hk hr
        obtain ⟨bu, emb, hm⟩ := S.idx (t := 36) 0 rfl (kd := .i64) (j := x.toNat) (by rw [irows_len]; omega) u36 sz3
        obtain ⟨_, _, hpu, hcu⟩ := (show IntsZ h uv us from (S.slV 0 rfl).z).at_ ew
        rw [hm] at hpu
        cases hpu
        rw [show ((x.toNat : Nat) : Int) = x by omega] at hm
        repeat (first | (with_reducible apply Tl.val; focus (simp (disch := omega) only [coreA, Int.reduceBEq, base_Vk, hp, hc1, hm, hcu] <;> with_reducible rfl)) | (with_reducible first | refine Tl.brT ?_ | refine Tl.brF ?_ | refine Tl.gd_on ?_ | refine Tl.gd3_on ?_) | ((with_reducible first | apply Tl.brC | apply Tl.gdC | apply Tl.gd3C); focus (simp (disch := omega) only [coreA, Int.reduceBEq, base_Vk, hp, hc1, hm, hcu] <;> with_reducible rfl)))
        refine Tl.setAt S 0 rfl emb (by rw [irows_len]; omega) rfl sz3 rfl fun h' S' => ?_
        have S' : Stt Try.prog h0.n h0 h' L [(uv, 1, irows (us.set x.toNat (w + 1)))] := by
          have : irows (us.set x.toNat (w + 1)) = (irows us).set x.toNat [.int .i64 (w + 1)] := by simp [irows, List.map_set]
          rw [this]
          exact S'
        repeat (first | (with_reducible apply Tl.val; focus (simp (disch := omega) only [coreA, Int.reduceBEq, base_Vk] <;> with_reducible rfl)) | (with_reducible first | refine Tl.brT ?_ | refine Tl.brF ?_ | refine Tl.gd_on ?_ | refine Tl.gd3_on ?_) | ((with_reducible first | apply Tl.brC | apply Tl.gdC | apply Tl.gd3C); focus (simp (disch := omega) only [coreA, Int.reduceBEq, base_Vk] <;> with_reducible rfl)))
        rw [e]
        refine ih (M := M) (by omega) (by omega) (by simp; omega) hM (fun u hu' => ?_) S' hk hr
        rcases mem_set_cases hu' with rfl | ⟨j', _, hj'⟩
        · omega
        · have := hb u (List.mem_of_getElem? hj')
          omega
      · rw [if_neg (fun h => q1 h.2)] at hr
        repeat (first | (with_reducible apply Tl.val; focus (simp (disch := omega) only [coreA, Int.reduceBEq, base_Vk, hp, hc1] <;> with_reducible rfl)) | (with_reducible first | refine Tl.brT ?_ | refine Tl.brF ?_ | refine Tl.gd_on ?_ | refine Tl.gd3_on ?_) | ((with_reducible first | apply Tl.brC | apply Tl.gdC | apply Tl.gd3C); focus (simp (disch := omega) only [coreA, Int.reduceBEq, base_Vk, hp, hc1] <;> with_reducible rfl)))
        exact hr rfl _ S.grow
    · rw [if_neg (fun h => q0 h.1)] at hr
      repeat (first | (with_reducible apply Tl.val; focus (simp (disch := omega) only [coreA, Int.reduceBEq, base_Vk, hp, hc1] <;> with_reducible rfl)) | (with_reducible first | refine Tl.brT ?_ | refine Tl.brF ?_ | refine Tl.gd_on ?_ | refine Tl.gd3_on ?_) | ((with_reducible first | apply Tl.brC | apply Tl.gdC | apply Tl.gd3C); focus (simp (disch := omega) only [coreA, Int.reduceBEq, base_Vk, hp, hc1] <;> with_reducible rfl)))
      exact hr rfl _ S.grow
theorem f56_out {β : Type} {k : Nat} {Q : β → Prop} {h0 : AH} {cv v uv : Value} {cols : List ColD} {l : List NodeD} (C : Cols h0 cv cols) (hcl : cols.length ≤ 9223372036854775807) (PL : Preds h0 v l) (hl : l.length ≤ 64) (hps : ∀ nd ∈ l, nd.parts.length ≤ 900 ∧ cellR nd.val)
    {ke0 : Value → Value → Value → Value → Value → Value → Value → AH → Option β} {kr : Value → AH → Option β} (n : Nat) :
    ∀ {i j : Nat} {us : List Int} {h : AH}, i + n = l.length → n < j → us.length = l.length → (∀ u ∈ us, 0 ≤ u ∧ u ≤ i * 1000) → Stt Try.prog h0.n h0 h [] [(uv, 1, irows us)] →
      (∀ us', checkF cols i (l.drop i) us = some us' → us'.length = l.length → ∀ y4 y5 y6 y7 h', Stt Try.prog h0.n h0 h' [] [(uv, 1, irows us')] → Tl (ke0 cv v uv y4 y5 y6 y7 h') Q) →
      (checkF cols i (l.drop i) us = none → ∀ h', Grow h0 h' → Tl (kr (.int .i64 180) h') Q) →
      Tl (F56_lrlrrrr (eInv env (k + 1000)) (k + 1000) j cv v uv v (.int .i64 l.length) (.int .i64 i) h ke0 kr) Q := by
  induction n with
  | zero =>
    intro i j us h hi hj hu hb S hk hr
    obtain ⟨j, rfl⟩ : ∃ q, j = q + 1 := ⟨j - 1, by omega⟩
    simp only [F56_lrlrrrr]
    repeat (first | (with_reducible apply Tl.val; focus (simp (disch := omega) only [coreA, Int.reduceBEq, base_Vk] <;> with_reducible rfl)) | (with_reducible first | refine Tl.brT ?_ | refine Tl.brF ?_ | refine Tl.gd_on ?_ | refine Tl.gd3_on ?_) | ((with_reducible first | apply Tl.brC | apply Tl.gdC | apply Tl.gd3C); focus (simp (disch := omega) only [coreA, Int.reduceBEq, base_Vk] <;> with_reducible rfl)))
    exact hk us (by rw [List.drop_eq_nil_of_le (by omega)]; rfl) hu _ _ _ _ _ S
  | succ n ih =>
    intro i j us h hi hj hu hb S hk hr
    obtain ⟨j, rfl⟩ : ∃ q, j = q + 1 := ⟨j - 1, by omega⟩
    obtain ⟨nd, ex⟩ : ∃ x, l[i]? = some x := ⟨_, List.getElem?_eq_getElem (by omega)⟩
    obtain ⟨b, o, pv, hp, hrow, N⟩ := PL.at_ ex
    obtain ⟨hn1, hn2⟩ := hps nd (List.mem_of_getElem? ex)
    have hrow1 := S.grow.row hrow
    obtain ⟨pa, pc, epv, _⟩ := SlZ.form N
    rw [irows_len] at epv
    subst epv
    have e : (i : Int) + 1 = ((i + 1 : Nat) : Int) := by omega
    rw [drop_at ex, checkF] at hk hr
    simp only [F56_lrlrrrr]
    repeat (first | (with_reducible apply Tl.val; focus (simp (disch := omega) only [coreA, Int.reduceBEq, base_Vk, hp, hrow1] <;> with_reducible rfl)) | (with_reducible first | refine Tl.brT ?_ | refine Tl.brF ?_ | refine Tl.gd_on ?_ | refine Tl.gd3_on ?_) | ((with_reducible first | apply Tl.brC | apply Tl.gdC | apply Tl.gd3C); focus (simp (disch := omega) only [coreA, Int.reduceBEq, base_Vk, hp, hrow1] <;> with_reducible rfl)))
    refine Tl.alloc' S ze59 (by rfl) fun b8 h1 S1 g1 => ?_
    refine Tl.store' S1 0 rfl sz59 rfl rfl (by simp [Value.cells]) fun h2 S2 k2 => ?_
    have S2 : Stt Try.prog h0.n h0 h2 [(b8, .cells (nrow nd (.slice pa nd.parts.length pc)) 59 true)] [(uv, 1, irows us)] := S2
    have r6 : h2.row b8 0 6 = some (nrow nd (.slice pa nd.parts.length pc)) := S2.row 0 rfl rfl
    repeat (first | (with_reducible apply Tl.val; focus (simp (disch := omega) only [coreA, Int.reduceBEq, base_Vk, r6] <;> with_reducible rfl)) | (with_reducible first | refine Tl.brT ?_ | refine Tl.brF ?_ | refine Tl.gd_on ?_ | refine Tl.gd3_on ?_) | ((with_reducible first | apply Tl.brC | apply Tl.gdC | apply Tl.gd3C); focus (simp (disch := omega) only [coreA, Int.reduceBEq, base_Vk, r6] <;> with_reducible rfl)))
    refine Tl.call' S2 (f72c (k := k + 970) (C.grow S2.grow) hcl hn2) fun h3 S3 g3 => ?_
    cases q : nodeOk cols nd with
    | false =>
      rw [q] at hr
      simp only [Bool.false_eq_true, if_false] at hr
      repeat (first | (with_reducible apply Tl.val; focus (simp (disch := omega) only [coreA, Int.reduceBEq, base_Vk] <;> with_reducible rfl)) | (with_reducible first | refine Tl.brT ?_ | refine Tl.brF ?_ | refine Tl.gd_on ?_ | refine Tl.gd3_on ?_) | ((with_reducible first | apply Tl.brC | apply Tl.gdC | apply Tl.gd3C); focus (simp (disch := omega) only [coreA, Int.reduceBEq, base_Vk] <;> with_reducible rfl)))
      exact hr trivial _ S3.grow
    | true =>
      rw [q] at hk hr
      simp only [if_true] at hk hr
      have c5 : h3.cell b8 5 = some (.slice pa nd.parts.length pc) := S3.cell 0 rfl rfl
      have hv : ∀ h' : AH, pLen Try.prog #[36] (.slice pa nd.parts.length pc) h' = some (.int .i64 nd.parts.length) := fun h' => len_slice u36
      repeat (first | (with_reducible apply Tl.val; focus (simp (disch := omega) only [coreA, Int.reduceBEq, base_Vk, c5, hv] <;> with_reducible rfl)) | (with_reducible first | refine Tl.brT ?_ | refine Tl.brF ?_ | refine Tl.gd_on ?_ | refine Tl.gd3_on ?_) | ((with_reducible first | apply Tl.brC | apply Tl.gdC | apply Tl.gd3C); focus (simp (disch := omega) only [coreA, Int.reduceBEq, base_Vk, c5, hv] <;> with_reducible rfl)))
      refine f56_in N (len := l.length) (by omega) (by omega) (by omega) nd.parts.length (q := 0) (M := i * 1000) (by omega) (by omega) hu (by omega) (fun u hu' => by have := hb u hu'; omega) S3 (fun us' q1 hu' hb' y1 y2 y3 y4 h' S' => ?_) fun q1 h' g' => ?_
      · rw [List.drop_zero] at q1
        rw [q1] at hk hr
        simp only [Option.bind_some] at hk hr
        repeat (first | (with_reducible apply Tl.val; focus (simp (disch := omega) only [coreA, Int.reduceBEq, base_Vk] <;> with_reducible rfl)) | (with_reducible first | refine Tl.brT ?_ | refine Tl.brF ?_ | refine Tl.gd_on ?_ | refine Tl.gd3_on ?_) | ((with_reducible first | apply Tl.brC | apply Tl.gdC | apply Tl.gd3C); focus (simp (disch := omega) only [coreA, Int.reduceBEq, base_Vk] <;> with_reducible rfl)))
        rw [e]
        exact ih (by omega) (by omega) hu' (fun u hu'' => by have := hb' u hu''; omega) S'.drop hk hr
      · rw [List.drop_zero] at q1
        rw [q1] at hr
        exact hr rfl h' g'
theorem f56c {k : Nat} {h : AH} {cv v : Value} {cols : List ColD} {l : List NodeD} (C : Cols h cv cols) (hcl : cols.length ≤ 9223372036854775807) (PL : Preds h v l) (hl : l.length ≤ 9223372036854775807) (hps : ∀ nd ∈ l, nd.parts.length ≤ 900 ∧ cellR nd.val) :
    Tl (eInv env (k + 1300) (.func 56) #[] #[cv, v] h) fun r => (∃ e : Int, r.1 = .int .i64 e ∧ (e = 0 ↔ predOk cols l = true)) ∧ Grow h r.2 := by
  rw [F56_call]
  unfold F56 predOk
  have hv : ∀ h', pLen Try.prog #[35] v h' = some (.int .i64 l.length) := fun h' => PL.len
  refine Tl.bind (f33c (k := k + 1098) C hcl) ?_
  rintro ⟨r, h1⟩ ⟨⟨e, er, he⟩, g1⟩
  simp only at er g1
  subst er
  by_cases q : e = 0
  · rw [he.1 q, Bool.true_and]
    by_cases q2 : l.length ≤ 64
    · rw [decide_eq_true q2, Bool.true_and]
      repeat (first | (with_reducible apply Tl.val; focus (simp (disch := omega) only [coreA, Int.reduceBEq, base_Vk, hv] <;> with_reducible rfl)) | (with_reducible first | refine Tl.brT ?_ | refine Tl.brF ?_ | refine Tl.gd_on ?_ | refine Tl.gd3_on ?_) | ((with_reducible first | apply Tl.brC | apply Tl.gdC | apply Tl.gd3C); focus (simp (disch := omega) only [coreA, Int.reduceBEq, base_Vk, hv] <;> with_reducible rfl)))
      refine Tl.make' ((Stt.init h : Stt Try.prog h.n h h [] []).call g1) app36 ze3 (by omega) (by omega) fun uv h2 S2 g2 => ?_
      have er : List.replicate l.length (Value.int .i64 0).cells.toList = irows (List.replicate l.length 0) := by simp [irows, Value.cells]
      rw [er] at S2
      repeat (first | (with_reducible apply Tl.val; focus (simp (disch := omega) only [coreA, Int.reduceBEq, base_Vk, hv] <;> with_reducible rfl)) | (with_reducible first | refine Tl.brT ?_ | refine Tl.brF ?_ | refine Tl.gd_on ?_ | refine Tl.gd3_on ?_) | ((with_reducible first | apply Tl.brC | apply Tl.gdC | apply Tl.gd3C); focus (simp (disch := omega) only [coreA, Int.reduceBEq, base_Vk, hv] <;> with_reducible rfl)))
      refine f56_out (k := k + 299) C hcl PL q2 hps l.length (i := 0) (us := List.replicate l.length 0) (by omega) (by omega) (by simp) (fun u hu => by have := List.eq_of_mem_replicate hu; omega) S2 (fun us' q3 hu' y4 y5 y6 y7 h' S' => ?_) fun q3 h' g' => ?_
      · rw [List.drop_zero] at q3
        rw [q3]
        simp only
        by_cases q4 : 0 < l.length
        · obtain ⟨tv, htv, T, _⟩ := SlZ.take (S'.slV 0 rfl).z u36 sz3 (k := .i64) (i := l.length - 1) (by rw [irows_len]; omega)
          have T : IntsZ h' tv (us'.take (l.length - 1)) := by unfold IntsZ irows; rw [List.map_take]; exact T
          have e1 : (l.length : Int) - 1 = ((l.length - 1 : Nat) : Int) := by omega
          have hcf := f73e (k := k + 1297) (p := fun n => n != 1) T (by simp; omega) (by simp; omega) fun c => f74e (k := k + 1296) c h'
          rw [← e1] at htv
          cases q5 : ((us'.take (l.length - 1)).any fun n => n != 1) with
          | true =>
            rw [q5] at hcf
            repeat (first | (with_reducible apply Tl.val; focus (simp (disch := omega) only [coreA, Int.reduceBEq, base_Vk, hv, htv, hcf] <;> with_reducible rfl)) | (with_reducible first | refine Tl.brT ?_ | refine Tl.brF ?_ | refine Tl.gd_on ?_ | refine Tl.gd3_on ?_) | ((with_reducible first | apply Tl.brC | apply Tl.gdC | apply Tl.gd3C); focus (simp (disch := omega) only [coreA, Int.reduceBEq, base_Vk, hv, htv, hcf] <;> with_reducible rfl)))
            exact ⟨_, rfl, ⟨180, rfl, by simp⟩, S'.grow⟩
          | false =>
            rw [q5] at hcf
            repeat (first | (with_reducible apply Tl.val; focus (simp (disch := omega) only [coreA, Int.reduceBEq, base_Vk, hv, htv, hcf] <;> with_reducible rfl)) | (with_reducible first | refine Tl.brT ?_ | refine Tl.brF ?_ | refine Tl.gd_on ?_ | refine Tl.gd3_on ?_) | ((with_reducible first | apply Tl.brC | apply Tl.gdC | apply Tl.gd3C); focus (simp (disch := omega) only [coreA, Int.reduceBEq, base_Vk, hv, htv, hcf] <;> with_reducible rfl)))
            exact ⟨_, rfl, ⟨0, rfl, by simp⟩, S'.grow⟩
        · have hz : l.length = 0 := by omega
          repeat (first | (with_reducible apply Tl.val; focus (simp (disch := omega) only [coreA, Int.reduceBEq, base_Vk, hv] <;> with_reducible rfl)) | (with_reducible first | refine Tl.brT ?_ | refine Tl.brF ?_ | refine Tl.gd_on ?_ | refine Tl.gd3_on ?_) | ((with_reducible first | apply Tl.brC | apply Tl.gdC | apply Tl.gd3C); focus (simp (disch := omega) only [coreA, Int.reduceBEq, base_Vk, hv] <;> with_reducible rfl)))
          exact ⟨_, rfl, ⟨0, rfl, by simp [hz]⟩, S'.grow⟩
      · rw [List.drop_zero] at q3
        rw [q3]
        exact ⟨_, rfl, ⟨180, rfl, by simp⟩, g'⟩
    · repeat (first | (with_reducible apply Tl.val; focus (simp (disch := omega) only [coreA, Int.reduceBEq, base_Vk, hv] <;> with_reducible rfl)) | (with_reducible first | refine Tl.brT ?_ | refine Tl.brF ?_ | refine Tl.gd_on ?_ | refine Tl.gd3_on ?_) | ((with_reducible first | apply Tl.brC | apply Tl.gdC | apply Tl.gd3C); focus (simp (disch := omega) only [coreA, Int.reduceBEq, base_Vk, hv] <;> with_reducible rfl)))
      exact ⟨_, rfl, ⟨180, rfl, by simp [q2]⟩, g1⟩
  · have q' : colsOk cols = false := by
      cases hf : colsOk cols with
      | false => rfl
      | true => exact absurd (he.2 hf) q
    rw [q', Bool.false_and]
    repeat (first | (with_reducible apply Tl.val; focus (simp (disch := omega) only [coreA, Int.reduceBEq, base_Vk, hv] <;> with_reducible rfl)) | (with_reducible first | refine Tl.brT ?_ | refine Tl.brF ?_ | refine Tl.gd_on ?_ | refine Tl.gd3_on ?_) | ((with_reducible first | apply Tl.brC | apply Tl.gdC | apply Tl.gd3C); focus (simp (disch := omega) only [coreA, Int.reduceBEq, base_Vk, hv] <;> with_reducible rfl)))
    exact ⟨_, rfl, ⟨e, rfl, by simp [q]⟩, g1⟩
end Go.Proofs.Ytjmfokglckaneaa.Sh
