/- What 'pred.Holds' comes to. -/
import Derived.Test.YtjmfokglckaneaaSzVc
set_option linter.unusedVariables false
set_option linter.unusedSimpArgs false
set_option maxRecDepth 100000
namespace Go.Proofs.Ytjmfokglckaneaa.Sh
open Go Go.RowKit Go.Proofs.Ev
theorem base_Vd : type_of% (And.intro @ld3 (And.intro @ld2 (And.intro @ld4 (And.intro @ld9 (And.intro @ld36 (And.intro @ld45 (And.intro @ld59 (And.intro @ld37 (And.intro @fa59_0 (And.intro @fa59_1 (And.intro @fa59_2 (And.intro @fa59_3 (@Nat.add_zero))))))))))))) := And.intro @ld3 (And.intro @ld2 (And.intro @ld4 (And.intro @ld9 (And.intro @ld36 (And.intro @ld45 (And.intro @ld59 (And.intro @ld37 (And.intro @fa59_0 (And.intro @fa59_1 (And.intro @fa59_2 (And.intro @fa59_3 (@Nat.add_zero))))))))))))
/-- What a node tells of a row, and of what its parts tell. -/
def tellB (row : List CellD) (nd : NodeD) (ps : List Bool) : Bool :=
  if 2 ≤ nd.op ∧ nd.op ≤ 5 then leafB nd row
  else if nd.op = 1 then true
  else if nd.op = 6 then !ps.contains false
  else if nd.op = 7 then ps.contains true
  else if nd.op = 8 then ps.contains false
  else false
theorem f62c {k : Nat} (nd : NodeD) {h : AH} {bc : Nat} {a : Option Addr} {m c : Nat} {rv psv : Value} {row : List CellD} {ps : List Bool} (hc : h.cell bc 0 = some rv) (R : Cells h rv row) (B : Bools h psv ps) (hl : row.length ≤ 2 ^ 62) (hp : ps.length ≤ 1000) :
    Tl (callV (eInv env (k + 1100)) (.func (.func 62) #[] #[ptr bc]) #[nval nd (.slice a m c), psv] h) fun r => r.1 = .bool (tellB row nd ps) ∧ Grow h r.2 := by
  rw [callV_cap2 (by kernel_rfl), F62_eq]
  unfold F62
  refine Tl.box' (Stt.init h) rfl (by rw [sz59]; rfl) fun b1 h1 S1 g1 => ?_
  have c0 := S1.cell (o := 0) (v := .int .i64 nd.op) 0 rfl rfl
  have r6 : h1.row b1 0 6 = some (nrow nd (.slice a m c)) := S1.row 0 rfl rfl
  have hc1 := g1.cell hc
  unfold ptr tellB
  have hf : ∀ w, eInv env (k + 1099) (.func 65) #[] #[psv, .bool w] h1 = some (.bool (ps.contains w), h1) := fun w => f65e (k := k + 1097) (B.grow g1) w (by omega) (by omega)
  have he : ∀ op h, eInv env (k + 1099) (.func 63) #[] #[.int .i64 op] h = some (.bool (decide (2 ≤ op) && decide (op ≤ 5)), h) := fun op h => f63e (k := k + 1098) op h
  by_cases q : 2 ≤ nd.op ∧ nd.op ≤ 5
  · rw [if_pos q]
    have q1 := q.1
    have q2 := q.2
    repeat (first | (with_reducible apply Tl.val; focus (simp (disch := omega) only [coreA, Int.reduceBEq, base_Vd, c0, he, r6, hc1] <;> with_reducible rfl)) | (with_reducible first | refine Tl.brT ?_ | refine Tl.brF ?_ | refine Tl.gd_on ?_ | refine Tl.gd3_on ?_) | ((with_reducible first | apply Tl.brC | apply Tl.gdC | apply Tl.gd3C); focus (simp (disch := omega) only [coreA, Int.reduceBEq, base_Vd, c0, he, r6, hc1] <;> with_reducible rfl)))
    refine Tl.call' S1 (f64c (k := k + 1079) nd q (R.grow g1) hl) fun h2 S2 g2 => ?_
    exact ⟨_, rfl, rfl, S2.grow⟩
  · rw [if_neg q]
    have hq : (decide (2 ≤ nd.op) && decide (nd.op ≤ 5)) = false := by
      by_cases h1 : 2 ≤ nd.op
      · have : ¬ nd.op ≤ 5 := fun h2 => q ⟨h1, h2⟩
        simp [this]
      · simp [h1]
    by_cases q1 : nd.op = 1
    · rw [if_pos q1]
      repeat (first | (with_reducible apply Tl.val; focus (simp (disch := omega) only [coreA, Int.reduceBEq, base_Vd, c0, he, hq, q1] <;> with_reducible rfl)) | (with_reducible first | refine Tl.brT ?_ | refine Tl.brF ?_ | refine Tl.gd_on ?_ | refine Tl.gd3_on ?_) | ((with_reducible first | apply Tl.brC | apply Tl.gdC | apply Tl.gd3C); focus (simp (disch := omega) only [coreA, Int.reduceBEq, base_Vd, c0, he, hq, q1] <;> with_reducible rfl)))
      exact ⟨_, rfl, rfl, S1.grow⟩
    · rw [if_neg q1]
      by_cases q6 : nd.op = 6
      · rw [if_pos q6]
        repeat (first | (with_reducible apply Tl.val; focus (simp (disch := omega) only [coreA, Int.reduceBEq, base_Vd, c0, he, hq, q6, hf] <;> with_reducible rfl)) | (with_reducible first | refine Tl.brT ?_ | refine Tl.brF ?_ | refine Tl.gd_on ?_ | refine Tl.gd3_on ?_) | ((with_reducible first | apply Tl.brC | apply Tl.gdC | apply Tl.gd3C); focus (simp (disch := omega) only [coreA, Int.reduceBEq, base_Vd, c0, he, hq, q6, hf] <;> with_reducible rfl)))
        exact ⟨_, rfl, rfl, S1.grow⟩
      · rw [if_neg q6]
        by_cases q7 : nd.op = 7
        · rw [if_pos q7]
          repeat (first | (with_reducible apply Tl.val; focus (simp (disch := omega) only [coreA, Int.reduceBEq, base_Vd, c0, he, hq, q7, hf] <;> with_reducible rfl)) | (with_reducible first | refine Tl.brT ?_ | refine Tl.brF ?_ | refine Tl.gd_on ?_ | refine Tl.gd3_on ?_) | ((with_reducible first | apply Tl.brC | apply Tl.gdC | apply Tl.gd3C); focus (simp (disch := omega) only [coreA, Int.reduceBEq, base_Vd, c0, he, hq, q7, hf] <;> with_reducible rfl)))
          exact ⟨_, rfl, rfl, S1.grow⟩
        · rw [if_neg q7]
          by_cases q8 : nd.op = 8
          · rw [if_pos q8]
            repeat (first | (with_reducible apply Tl.val; focus (simp (disch := omega) only [coreA, Int.reduceBEq, base_Vd, c0, he, hq, q8, hf] <;> with_reducible rfl)) | (with_reducible first | refine Tl.brT ?_ | refine Tl.brF ?_ | refine Tl.gd_on ?_ | refine Tl.gd3_on ?_) | ((with_reducible first | apply Tl.brC | apply Tl.gdC | apply Tl.gd3C); focus (simp (disch := omega) only [coreA, Int.reduceBEq, base_Vd, c0, he, hq, q8, hf] <;> with_reducible rfl)))
            exact ⟨_, rfl, rfl, S1.grow⟩
          · rw [if_neg q8]
            repeat (first | (with_reducible apply Tl.val; focus (simp (disch := omega) only [coreA, Int.reduceBEq, base_Vd, c0, he, hq] <;> with_reducible rfl)) | (with_reducible first | refine Tl.brT ?_ | refine Tl.brF ?_ | refine Tl.gd_on ?_ | refine Tl.gd3_on ?_) | ((with_reducible first | apply Tl.brC | apply Tl.gdC | apply Tl.gd3C); focus (simp (disch := omega) only [coreA, Int.reduceBEq, base_Vd, c0, he, hq] <;> with_reducible rfl)))
            exact ⟨_, rfl, rfl, S1.grow⟩
/-! ### 'gone' -/
def lookB {α : Type} (d : α) (out : List α) (n : Int) : α := if 0 ≤ n then (out[n.toNat]?).getD d else d
def goneL {α : Type} (d : α) (t : NodeD → List α → α) : List NodeD → List α → List α
  | [], out => out
  | nd :: l, out => goneL d t l (out ++ [t nd (nd.parts.map (lookB d out))])
theorem brows_snoc (l : List Bool) (b : Bool) : brows l ++ [[.bool b]] = brows (l ++ [b]) := by simp [brows]
theorem brows_flat (l : List Bool) : (brows l).flatten = l.map Value.bool := by
  unfold brows
  induction l with
  | nil => rfl
  | cons a l ih => simp; exact ih
/-- The cells of 'out': what is told, and room. -/
def ocs (outs : List Bool) (cap : Nat) : List Value := outs.map Value.bool ++ List.replicate (cap - outs.length) (.bool false)
theorem ocs_len {outs : List Bool} {cap : Nat} (h : outs.length ≤ cap) : (ocs outs cap).length = cap := by simp [ocs]; omega
theorem ocs_push {outs : List Bool} {cap : Nat} (h : outs.length < cap) (w : Bool) : splice (ocs outs cap) (outs.length * 1) [.bool w] = ocs (outs ++ [w]) cap := by
  unfold splice ocs
  obtain ⟨m, hm⟩ : ∃ m, cap - outs.length = m + 1 := ⟨cap - outs.length - 1, by omega⟩
  have h2 : cap - (outs ++ [w]).length = m := by simp; omega
  rw [hm, h2, Nat.mul_one, List.replicate_succ]
  rw [List.take_append_of_le_length (by simp), List.take_of_length_le (by simp)]
  rw [show outs.length + [Value.bool w].length = (outs.map Value.bool).length + 1 by simp, ← List.drop_drop, List.drop_left]
  simp
theorem ocs_bools {n0 : Nat} {h0 h : AH} {L : List (Nat × AO)} {O : List OS} {outs : List Bool} {cap b i : Nat} {e : TypeId} (S : Stt Try.prog n0 h0 h L O) (hi : L[i]? = some (b, .cells (ocs outs cap) e true)) (hc : outs.length ≤ cap) : Bools h (.slice (some ⟨b, 0, none⟩) outs.length cap) outs := by
  have := S.sub i (rows := brows outs) (n := 1) (cap := cap) hi (fun r hr => by obtain ⟨x, _, rfl⟩ := List.mem_map.1 hr; rfl) (by rw [brows_len]; exact hc) (by rw [brows_len, ocs_len hc]; omega) (by
    rw [brows_flat, brows_len, ocs, Nat.mul_one, List.take_append_of_le_length (by simp), List.take_of_length_le (by simp)])
  rw [brows_len] at this
  exact this.z
theorem f61_in {β : Type} {k : Nat} {Q : β → Prop} {h0 : AH} {L : List (Nat × AO)} {outs : List Bool} {outv fv p9 pv x17 x18 x19 : Value} {ns : List Int} (N : IntsZ h0 pv ns) (hn : ns.length ≤ 1000) (ho : outs.length ≤ 1000) (hB : ∀ h' O', Stt Try.prog h0.n h0 h' L O' → Bools h' outv outs)
    {ke2 : Value → Value → Value → Value → Value → Value → Value → Value → Value → Value → Value → Value → Value → AH → Option β} (n : Nat) :
    ∀ {q j : Nat} {ps : List Bool} {psv : Value} {h : AH}, q + n = ns.length → n < j → ps.length = q → Stt Try.prog h0.n h0 h L [(psv, 1, brows ps)] →
      (∀ psv' h' y27 y28, Stt Try.prog h0.n h0 h' L [(psv', 1, brows (ps ++ (ns.drop q).map (lookB false outs)))] → Tl (ke2 (.bool false) fv outv (.int .i64 outs.length) p9 psv' x17 x18 x19 pv (.int .i64 ns.length) y27 y28 h') Q) →
      Tl (F61_lrlrrllrrllrlrr (eInv env k) k j (.bool false) fv outv (.int .i64 outs.length) p9 psv x17 x18 x19 pv (.int .i64 ns.length) (.int .i64 q) h ke2) Q := by
  induction n with
  | zero =>
    intro q j ps psv h hq hj hl S hk
    obtain ⟨j, rfl⟩ : ∃ q, j = q + 1 := ⟨j - 1, by omega⟩
    simp only [F61_lrlrrllrrllrlrr]
    repeat (first | (with_reducible apply Tl.val; focus (simp (disch := omega) only [coreA, Int.reduceBEq, base_Vd] <;> with_reducible rfl)) | (with_reducible first | refine Tl.brT ?_ | refine Tl.brF ?_ | refine Tl.gd_on ?_ | refine Tl.gd3_on ?_) | ((with_reducible first | apply Tl.brC | apply Tl.gdC | apply Tl.gd3C); focus (simp (disch := omega) only [coreA, Int.reduceBEq, base_Vd] <;> with_reducible rfl)))
    rw [List.drop_eq_nil_of_le (by omega), List.map_nil, List.append_nil] at hk
    exact hk _ _ _ _ S
  | succ n ih =>
    intro q j ps psv h hq hj hl S hk
    obtain ⟨j, rfl⟩ : ∃ q, j = q + 1 := ⟨j - 1, by omega⟩
    obtain ⟨x, ex⟩ : ∃ x, ns[q]? = some x := ⟨_, List.getElem?_eq_getElem (by omega)⟩
    obtain ⟨b, o, hp, hc⟩ := N.at_ ex
    have hc1 := S.grow.cell hc
    have e : (q : Int) + 1 = ((q + 1 : Nat) : Int) := by omega
    rw [drop_at ex, List.map_cons] at hk
    simp only [F61_lrlrrllrrllrlrr]
    unfold F61_rlrrllrrllrlrrllrrllrlrr
    by_cases q0 : 0 ≤ x
    · by_cases q1 : x < outs.length
      · obtain ⟨w, ew⟩ : ∃ w, outs[x.toNat]? = some w := ⟨_, List.getElem?_eq_getElem (by omega)⟩
        obtain ⟨b2, o2, hp2, hc2⟩ := (hB h _ S).at_ ew
        rw [show ((x.toNat : Nat) : Int) = x by omega] at hp2
        have el : lookB false outs x = w := by unfold lookB; rw [if_pos q0, ew]; rfl
        rw [el] at hk
        repeat (first | (with_reducible apply Tl.val; focus (simp (disch := omega) only [coreA, Int.reduceBEq, base_Vd, hp, hc1, hp2, hc2] <;> with_reducible rfl)) | (with_reducible first | refine Tl.brT ?_ | refine Tl.brF ?_ | refine Tl.gd_on ?_ | refine Tl.gd3_on ?_) | ((with_reducible first | apply Tl.brC | apply Tl.gdC | apply Tl.gd3C); focus (simp (disch := omega) only [coreA, Int.reduceBEq, base_Vd, hp, hc1, hp2, hc2] <;> with_reducible rfl)))
        refine Tl.push S 0 rfl app71 (bs71 _ _) rfl rfl (by rw [brows_len]; omega) fun v' h' S' => ?_
        repeat (first | (with_reducible apply Tl.val; focus (simp (disch := omega) only [coreA, Int.reduceBEq, base_Vd] <;> with_reducible rfl)) | (with_reducible first | refine Tl.brT ?_ | refine Tl.brF ?_ | refine Tl.gd_on ?_ | refine Tl.gd3_on ?_) | ((with_reducible first | apply Tl.brC | apply Tl.gdC | apply Tl.gd3C); focus (simp (disch := omega) only [coreA, Int.reduceBEq, base_Vd] <;> with_reducible rfl)))
        rw [e]
        refine ih (ps := ps ++ [w]) (by omega) (by omega) (by simp; omega) (by rw [← brows_snoc]; exact S') fun psv' h'' y27 y28 S'' => ?_
        exact hk _ _ _ _ (by rw [List.append_assoc] at S''; exact S'')
      · have el : lookB false outs x = false := by unfold lookB; rw [if_pos q0, List.getElem?_eq_none (by omega)]; rfl
        rw [el] at hk
        repeat (first | (with_reducible apply Tl.val; focus (simp (disch := omega) only [coreA, Int.reduceBEq, base_Vd, hp, hc1] <;> with_reducible rfl)) | (with_reducible first | refine Tl.brT ?_ | refine Tl.brF ?_ | refine Tl.gd_on ?_ | refine Tl.gd3_on ?_) | ((with_reducible first | apply Tl.brC | apply Tl.gdC | apply Tl.gd3C); focus (simp (disch := omega) only [coreA, Int.reduceBEq, base_Vd, hp, hc1] <;> with_reducible rfl)))
        refine Tl.push S 0 rfl app71 (bs71 _ _) rfl rfl (by rw [brows_len]; omega) fun v' h' S' => ?_
        repeat (first | (with_reducible apply Tl.val; focus (simp (disch := omega) only [coreA, Int.reduceBEq, base_Vd] <;> with_reducible rfl)) | (with_reducible first | refine Tl.brT ?_ | refine Tl.brF ?_ | refine Tl.gd_on ?_ | refine Tl.gd3_on ?_) | ((with_reducible first | apply Tl.brC | apply Tl.gdC | apply Tl.gd3C); focus (simp (disch := omega) only [coreA, Int.reduceBEq, base_Vd] <;> with_reducible rfl)))
        rw [e]
        refine ih (ps := ps ++ [false]) (by omega) (by omega) (by simp; omega) (by rw [← brows_snoc]; exact S') fun psv' h'' y27 y28 S'' => ?_
        exact hk _ _ _ _ (by rw [List.append_assoc] at S''; exact S'')
    · have el : lookB false outs x = false := by unfold lookB; rw [if_neg q0]
      rw [el] at hk
      repeat (first | (with_reducible apply Tl.val; focus (simp (disch := omega) only [coreA, Int.reduceBEq, base_Vd, hp, hc1] <;> with_reducible rfl)) | (with_reducible first | refine Tl.brT ?_ | refine Tl.brF ?_ | refine Tl.gd_on ?_ | refine Tl.gd3_on ?_) | ((with_reducible first | apply Tl.brC | apply Tl.gdC | apply Tl.gd3C); focus (simp (disch := omega) only [coreA, Int.reduceBEq, base_Vd, hp, hc1] <;> with_reducible rfl)))
      refine Tl.push S 0 rfl app71 (bs71 _ _) rfl rfl (by rw [brows_len]; omega) fun v' h' S' => ?_
      repeat (first | (with_reducible apply Tl.val; focus (simp (disch := omega) only [coreA, Int.reduceBEq, base_Vd] <;> with_reducible rfl)) | (with_reducible first | refine Tl.brT ?_ | refine Tl.brF ?_ | refine Tl.gd_on ?_ | refine Tl.gd3_on ?_) | ((with_reducible first | apply Tl.brC | apply Tl.gdC | apply Tl.gd3C); focus (simp (disch := omega) only [coreA, Int.reduceBEq, base_Vd] <;> with_reducible rfl)))
      rw [e]
      refine ih (ps := ps ++ [false]) (by omega) (by omega) (by simp; omega) (by rw [← brows_snoc]; exact S') fun psv' h'' y27 y28 S'' => ?_
      exact hk _ _ _ _ (by rw [List.append_assoc] at S''; exact S'')
theorem goneL_snoc {α : Type} (d : α) (t : NodeD → List α → α) (nd : NodeD) (l : List NodeD) (out : List α) : goneL d t (nd :: l) out = goneL d t l (out ++ [t nd (nd.parts.map (lookB d out))]) := rfl
theorem f61_out {β : Type} {k : Nat} {Q : β → Prop} {h0 : AH} {v fv : Value} {bo : Nat} {l : List NodeD} {t : NodeD → List Bool → Bool} (PL : Preds h0 v l) (hl : l.length ≤ 900) (hps : ∀ nd ∈ l, nd.parts.length ≤ 900) (hk1 : 1000 < k)
    (hcall : ∀ (nd : NodeD) (a : Option Addr) (m c : Nat) (ps : List Bool) (psv : Value) (h' : AH), Grow h0 h' → Bools h' psv ps → ps.length ≤ 1000 → Tl (callV (eInv env k) fv #[nval nd (.slice a m c), psv] h') fun r => r.1 = .bool (t nd ps) ∧ Grow h' r.2)
    {ke0 : Value → Value → Value → Value → Value → Value → Value → Value → AH → Option β} (n : Nat) :
    ∀ {i j : Nat} {outs : List Bool} {h : AH}, i + n = l.length → n < j → outs.length = i → Stt Try.prog h0.n h0 h [(bo, .cells (ocs outs l.length) 4 true)] [] →
      (∀ y1 y2 y3 y4 y5 y6 y7 h', Grow h0 h' → Tl (ke0 y1 y2 (.bool ((goneL false t (l.drop i) outs).getLast?.getD false)) y3 y4 y5 y6 y7 h') Q) →
      Tl (F61_lrlrr (eInv env k) k j (.bool false) fv (.bool (outs.getLast?.getD false)) (.slice (some ⟨bo, 0, none⟩) i l.length) v (.int .i64 l.length) (.int .i64 i) h ke0) Q := by
  induction n with
  | zero =>
    intro i j outs h hi hj ho S hk
    obtain ⟨j, rfl⟩ : ∃ q, j = q + 1 := ⟨j - 1, by omega⟩
    simp only [F61_lrlrr]
    repeat (first | (with_reducible apply Tl.val; focus (simp (disch := omega) only [coreA, Int.reduceBEq, base_Vd] <;> with_reducible rfl)) | (with_reducible first | refine Tl.brT ?_ | refine Tl.brF ?_ | refine Tl.gd_on ?_ | refine Tl.gd3_on ?_) | ((with_reducible first | apply Tl.brC | apply Tl.gdC | apply Tl.gd3C); focus (simp (disch := omega) only [coreA, Int.reduceBEq, base_Vd] <;> with_reducible rfl)))
    rw [List.drop_eq_nil_of_le (by omega)] at hk
    exact hk _ _ _ _ _ _ _ _ S.grow
  | succ n ih =>
    intro i j outs h hi hj ho S hk
    obtain ⟨j, rfl⟩ : ∃ q, j = q + 1 := ⟨j - 1, by omega⟩
    obtain ⟨nd, ex⟩ : ∃ x, l[i]? = some x := ⟨_, List.getElem?_eq_getElem (by omega)⟩
    obtain ⟨b, o, pv, hp, hrow, N⟩ := PL.at_ ex
    have hnp := hps nd (List.mem_of_getElem? ex)
    have hrow1 := S.grow.row hrow
    have hv : ∀ h', pLen Try.prog #[36] pv h' = some (.int .i64 nd.parts.length) := fun h' => N.len
    obtain ⟨pa, pc, epv, _⟩ := SlZ.form N
    rw [irows_len] at epv
    subst epv
    have e : (i : Int) + 1 = ((i + 1 : Nat) : Int) := by omega
    rw [drop_at ex, goneL_snoc] at hk
    simp only [F61_lrlrr]
    repeat (first | (with_reducible apply Tl.val; focus (simp (disch := omega) only [coreA, Int.reduceBEq, base_Vd, hp, hrow1] <;> with_reducible rfl)) | (with_reducible first | refine Tl.brT ?_ | refine Tl.brF ?_ | refine Tl.gd_on ?_ | refine Tl.gd3_on ?_) | ((with_reducible first | apply Tl.brC | apply Tl.gdC | apply Tl.gd3C); focus (simp (disch := omega) only [coreA, Int.reduceBEq, base_Vd, hp, hrow1] <;> with_reducible rfl)))
    refine Tl.alloc' S ze59 (by rfl) fun b9 h1 S1 g1 => ?_
    refine Tl.store' S1 0 rfl sz59 rfl rfl (by simp [Value.cells]) fun h2 S2 k2 => ?_
    have S2 : Stt Try.prog h0.n h0 h2 [(b9, .cells (nrow nd (.slice pa nd.parts.length pc)) 59 true), (bo, .cells (ocs outs l.length) 4 true)] [] := S2
    have c5 : h2.cell b9 5 = some (.slice pa nd.parts.length pc) := S2.cell 0 rfl rfl
    repeat (first | (with_reducible apply Tl.val; focus (simp (disch := omega) only [coreA, Int.reduceBEq, base_Vd, c5, hv] <;> with_reducible rfl)) | (with_reducible first | refine Tl.brT ?_ | refine Tl.brF ?_ | refine Tl.gd_on ?_ | refine Tl.gd3_on ?_) | ((with_reducible first | apply Tl.brC | apply Tl.gdC | apply Tl.gd3C); focus (simp (disch := omega) only [coreA, Int.reduceBEq, base_Vd, c5, hv] <;> with_reducible rfl)))
    subst ho
    refine f61_in N (by omega) (by omega) (fun h' O' S' => ocs_bools S' (i := 1) rfl (by omega)) nd.parts.length (q := 0) (ps := []) (by omega) (by omega) rfl (S2.nil 1) fun psv h3 y27 y28 S3 => ?_
    rw [List.drop_zero, List.nil_append] at S3
    have r6 : h3.row b9 0 6 = some (nrow nd (.slice pa nd.parts.length pc)) := S3.row 0 rfl rfl
    repeat (first | (with_reducible apply Tl.val; focus (simp (disch := omega) only [coreA, Int.reduceBEq, base_Vd, r6] <;> with_reducible rfl)) | (with_reducible first | refine Tl.brT ?_ | refine Tl.brF ?_ | refine Tl.gd_on ?_ | refine Tl.gd3_on ?_) | ((with_reducible first | apply Tl.brC | apply Tl.gdC | apply Tl.gd3C); focus (simp (disch := omega) only [coreA, Int.reduceBEq, base_Vd, r6] <;> with_reducible rfl)))
    refine Tl.call' S3 (hcall nd pa nd.parts.length pc _ psv h3 S3.grow (S3.slV 0 rfl).z (by simp; omega)) fun h4 S4 g4 => ?_
    repeat (first | (with_reducible apply Tl.val; focus (simp (disch := omega) only [coreA, Int.reduceBEq, base_Vd] <;> with_reducible rfl)) | (with_reducible first | refine Tl.brT ?_ | refine Tl.brF ?_ | refine Tl.gd_on ?_ | refine Tl.gd3_on ?_) | ((with_reducible first | apply Tl.brC | apply Tl.gdC | apply Tl.gd3C); focus (simp (disch := omega) only [coreA, Int.reduceBEq, base_Vd] <;> with_reducible rfl)))
    refine Tl.pushK S4.dropO.drop 0 rfl app71 (bs71 _ _) rfl rfl (by omega) (by rw [ocs_len (by omega)]; omega) fun h5 S5 => ?_
    have S5 : Stt Try.prog h0.n h0 h5 [(bo, .cells (splice (ocs outs l.length) (outs.length * 1) [.bool (t nd (nd.parts.map (lookB false outs)))]) 4 true)] [] := S5
    rw [ocs_push (by omega)] at S5
    repeat (first | (with_reducible apply Tl.val; focus (simp (disch := omega) only [coreA, Int.reduceBEq, base_Vd] <;> with_reducible rfl)) | (with_reducible first | refine Tl.brT ?_ | refine Tl.brF ?_ | refine Tl.gd_on ?_ | refine Tl.gd3_on ?_) | ((with_reducible first | apply Tl.brC | apply Tl.gdC | apply Tl.gd3C); focus (simp (disch := omega) only [coreA, Int.reduceBEq, base_Vd] <;> with_reducible rfl)))
    rw [e]
    have hlast : ((outs ++ [t nd (nd.parts.map (lookB false outs))]).getLast?.getD false) = t nd (nd.parts.map (lookB false outs)) := by simp
    rw [← hlast]
    exact ih (outs := outs ++ [t nd (nd.parts.map (lookB false outs))]) (by omega) (by omega) (by simp) S5 hk
theorem f61c {k : Nat} {h : AH} {v fv : Value} {l : List NodeD} {t : NodeD → List Bool → Bool} (PL : Preds h v l) (hl : l.length ≤ 900) (hps : ∀ nd ∈ l, nd.parts.length ≤ 900) (hk1 : 1000 < k)
    (hcall : ∀ (nd : NodeD) (a : Option Addr) (m c : Nat) (ps : List Bool) (psv : Value) (h' : AH), Grow h h' → Bools h' psv ps → ps.length ≤ 1000 → Tl (callV (eInv env k) fv #[nval nd (.slice a m c), psv] h') fun r => r.1 = .bool (t nd ps) ∧ Grow h' r.2) :
    Tl (eInv env (k + 1) (.func 61) #[] #[v, .bool false, fv] h) fun r => r.1 = .bool ((goneL false t l []).getLast?.getD false) ∧ Grow h r.2 := by
  rw [F61_call]
  unfold F61
  have hv : ∀ h', pLen Try.prog #[35] v h' = some (.int .i64 l.length) := fun h' => PL.len
  have em : pMakeSlice Try.prog 71 (.int .i64 0) (.int .i64 l.length) h = some (.slice (some ⟨h.n, 0, none⟩) 0 l.length, h.alloc (.cells (List.replicate l.length [Value.bool false]).flatten 4 true)) := by
    have := app71
    unfold pMakeSlice
    have he : elemT Try.prog 71 = some 4 := this.elem
    have hz : zeroT Try.prog 4 = some (.bool false) := ze4
    simp only [he, this.size, this.byt, hz]
    rw [if_pos]
    · rfl
    · exact ⟨by omega, by omega, by omega, by omega, rfl, rfl⟩
  repeat (first | (with_reducible apply Tl.val; focus (simp (disch := omega) only [coreA, Int.reduceBEq, base_Vd, hv, em] <;> with_reducible rfl)) | (with_reducible first | refine Tl.brT ?_ | refine Tl.brF ?_ | refine Tl.gd_on ?_ | refine Tl.gd3_on ?_) | ((with_reducible first | apply Tl.brC | apply Tl.gdC | apply Tl.gd3C); focus (simp (disch := omega) only [coreA, Int.reduceBEq, base_Vd, hv, em] <;> with_reducible rfl)))
  have S := (Stt.init h : Stt Try.prog h.n h h [] []).alloc (.cells (List.replicate l.length [Value.bool false]).flatten 4 true)
  have eo : (List.replicate l.length [Value.bool false]).flatten = ocs [] l.length := by simp [ocs, List.flatten_replicate_singleton]
  rw [eo] at S ⊢
  exact f61_out PL hl hps hk1 hcall l.length (i := 0) (outs := []) (by omega) (by omega) rfl S fun y1 y2 y3 y4 y5 y6 y7 h' g => ⟨_, rfl, rfl, g⟩
/-- What a predicate tells of a row. -/
def holdsB (row : List CellD) (l : List NodeD) : Bool := if l = [] then true else (goneL false (tellB row) l []).getLast?.getD false
theorem f38c {k : Nat} {h : AH} {v rv : Value} {l : List NodeD} {row : List CellD} (PL : Preds h v l) (R : Cells h rv row) (hl : l.length ≤ 900) (hps : ∀ nd ∈ l, nd.parts.length ≤ 900) (hr : row.length ≤ 2 ^ 62) :
    Tl (eInv env (k + 1200) (.func 38) #[] #[v, rv] h) fun r => r.1 = .bool (holdsB row l) ∧ Grow h r.2 := by
  rw [F38_call]
  unfold F38
  obtain ⟨ra, rc, er, _⟩ := SlZ.form R
  have hkn : kn rv = true := by rw [er]; rfl
  refine Tl.box' (Stt.init h) hkn (by kernel_rfl) fun bc h1 S1 g1 => ?_
  have hc : h1.cell bc 0 = some rv := by
    have := S1.sta.mem.at_ (i := 0) rfl
    simp only [SlZ.cells R] at this
    rw [cell_of this]
    rfl
  have hv : ∀ h', pLen Try.prog #[35] v h' = some (.int .i64 l.length) := fun h' => PL.len
  unfold holdsB
  by_cases q : l = []
  · rw [if_pos q]
    subst q
    repeat (first | (with_reducible apply Tl.val; focus (simp (disch := omega) only [coreA, Int.reduceBEq, base_Vd, hv] <;> with_reducible rfl)) | (with_reducible first | refine Tl.brT ?_ | refine Tl.brF ?_ | refine Tl.gd_on ?_ | refine Tl.gd3_on ?_) | ((with_reducible first | apply Tl.brC | apply Tl.gdC | apply Tl.gd3C); focus (simp (disch := omega) only [coreA, Int.reduceBEq, base_Vd, hv] <;> with_reducible rfl)))
    exact ⟨_, rfl, rfl, S1.grow⟩
  · rw [if_neg q]
    have hne : ¬ (l.length : Int) = 0 := by
      have := List.length_pos_iff.2 q
      omega
    have mf : pMakeFunc (Go.Fn.func 62) #[] #[.pointer (some ⟨bc, 0, none⟩)] = some (.func (.func 62) #[] #[ptr bc]) := rfl
    repeat (first | (with_reducible apply Tl.val; focus (simp (disch := omega) only [coreA, Int.reduceBEq, base_Vd, hv, mf] <;> with_reducible rfl)) | (with_reducible first | refine Tl.brT ?_ | refine Tl.brF ?_ | refine Tl.gd_on ?_ | refine Tl.gd3_on ?_) | ((with_reducible first | apply Tl.brC | apply Tl.gdC | apply Tl.gd3C); focus (simp (disch := omega) only [coreA, Int.reduceBEq, base_Vd, hv, mf] <;> with_reducible rfl)))
    refine Tl.call' S1 (f61c (k := k + 1198) (t := tellB row) (PL.grow g1) hl hps (by omega) fun nd a m c ps psv h' g B hp => ?_) fun h2 S2 g2 => ?_
    · exact f62c (k := k + 98) nd (g.cell hc) ((R.grow g1).grow g) B hr hp
    · exact ⟨_, rfl, rfl, S2.grow⟩
end Go.Proofs.Ytjmfokglckaneaa.Sh
