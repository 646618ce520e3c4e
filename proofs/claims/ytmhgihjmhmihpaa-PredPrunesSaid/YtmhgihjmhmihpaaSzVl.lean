/- What 'pred.Zone' comes to. -/
import Derived.Test.YtmhgihjmhmihpaaSzVd
import Derived.Test.YtmhgihjmhmihpaaSzVk
set_option linter.unusedVariables false
set_option linter.unusedSimpArgs false
set_option maxRecDepth 100000
namespace Go.Proofs.Ytmhgihjmhmihpaa.Sh
open Go Go.RowKit Go.Proofs.Ev
theorem base_Vl : type_of% (And.intro @ld3 (And.intro @ld2 (And.intro @ld4 (And.intro @ld9 (And.intro @ld46 (And.intro @ld42 (And.intro @ld48 (And.intro @ld58 (And.intro @ld38 (And.intro @fa42_0 (And.intro @fa42_1 (And.intro @fa42_2 (And.intro @fa48_0 (And.intro @fa48_1 (And.intro @fa48_2 (And.intro @fa48_3 (And.intro @fa58_0 (And.intro @fa58_1 (And.intro @fa58_2 (And.intro @fa58_3 (@Nat.add_zero))))))))))))))))))))) := And.intro @ld3 (And.intro @ld2 (And.intro @ld4 (And.intro @ld9 (And.intro @ld46 (And.intro @ld42 (And.intro @ld48 (And.intro @ld58 (And.intro @ld38 (And.intro @fa42_0 (And.intro @fa42_1 (And.intro @fa42_2 (And.intro @fa48_0 (And.intro @fa48_1 (And.intro @fa48_2 (And.intro @fa48_3 (And.intro @fa58_0 (And.intro @fa58_1 (And.intro @fa58_2 (And.intro @fa58_3 (@Nat.add_zero))))))))))))))))))))
theorem izsnoc (l : List Int) (x : Int) : irows l ++ [[.int .i64 x]] = irows (l ++ [x]) := by simp [irows]
theorem irows_flat (l : List Int) : (irows l).flatten = l.map (Value.int .i64) := by
  unfold irows
  induction l with
  | nil => rfl
  | cons a l ih => simp; exact ih
/-- The cells of 'out': what is told, and room. -/
def ocz (outs : List Int) (cap : Nat) : List Value := outs.map (Value.int .i64) ++ List.replicate (cap - outs.length) (.int .i64 0)
theorem ocz_len {outs : List Int} {cap : Nat} (h : outs.length ≤ cap) : (ocz outs cap).length = cap := by simp [ocz]; omega
theorem ocz_push {outs : List Int} {cap : Nat} (h : outs.length < cap) (w : Int) : splice (ocz outs cap) (outs.length * 1) [.int .i64 w] = ocz (outs ++ [w]) cap := by
  unfold splice ocz
  obtain ⟨m, hm⟩ : ∃ m, cap - outs.length = m + 1 := ⟨cap - outs.length - 1, by omega⟩
  have h2 : cap - (outs ++ [w]).length = m := by simp; omega
  rw [hm, h2, Nat.mul_one, List.replicate_succ]
  rw [List.take_append_of_le_length (by simp), List.take_of_length_le (by simp)]
  rw [show outs.length + [Value.int .i64 w].length = (outs.map (Value.int .i64)).length + 1 by simp, ← List.drop_drop, List.drop_left]
  simp
theorem ocz_bools {n0 : Nat} {h0 h : AH} {L : List (Nat × AO)} {O : List OS} {outs : List Int} {cap b i : Nat} {e : TypeId} (S : Stt Try.prog n0 h0 h L O) (hi : L[i]? = some (b, .cells (ocz outs cap) e true)) (hc : outs.length ≤ cap) : IntsZ h (.slice (some ⟨b, 0, none⟩) outs.length cap) outs := by
  have := S.sub i (rows := irows outs) (n := 1) (cap := cap) hi (fun r hr => by obtain ⟨x, _, rfl⟩ := List.mem_map.1 hr; rfl) (by rw [irows_len]; exact hc) (by rw [irows_len, ocz_len hc]; omega) (by
    rw [irows_flat, irows_len, ocz, Nat.mul_one, List.take_append_of_le_length (by simp), List.take_of_length_le (by simp)])
  rw [irows_len] at this
  exact this.z
theorem f36_in {β : Type} {k : Nat} {Q : β → Prop} {h0 : AH} {L : List (Nat × AO)} {outs : List Int} {outv fv p9 pv x17 x18 x19 : Value} {ns : List Int} (N : IntsZ h0 pv ns) (hn : ns.length ≤ 1000) (ho : outs.length ≤ 1000) (hB : ∀ h' O', Stt Try.prog h0.n h0 h' L O' → IntsZ h' outv outs)
    {ke2 : Value → Value → Value → Value → Value → Value → Value → Value → Value → Value → Value → Value → Value → AH → Option β} (n : Nat) :
    ∀ {q j : Nat} {ps : List Int} {psv : Value} {h : AH}, q + n = ns.length → n < j → ps.length = q → Stt Try.prog h0.n h0 h L [(psv, 1, irows ps)] →
      (∀ psv' h' y27 y28, Stt Try.prog h0.n h0 h' L [(psv', 1, irows (ps ++ (ns.drop q).map (lookB (2 : Int) outs)))] → Tl (ke2 (.int .i64 2) fv outv (.int .i64 outs.length) p9 psv' x17 x18 x19 pv (.int .i64 ns.length) y27 y28 h') Q) →
      Tl (F36_lrlrrllrrllrlrr (eInv env k) k j (.int .i64 2) fv outv (.int .i64 outs.length) p9 psv x17 x18 x19 pv (.int .i64 ns.length) (.int .i64 q) h ke2) Q := by
  induction n with
  | zero =>
    intro q j ps psv h hq hj hl S hk
    obtain ⟨j, rfl⟩ : ∃ q, j = q + 1 := ⟨j - 1, by omega⟩
    simp only [F36_lrlrrllrrllrlrr]
    repeat (first | (with_reducible apply Tl.val; focus (simp (disch := omega) only [coreA, Int.reduceBEq, base_Vl] <;> with_reducible rfl)) | (with_reducible first | refine Tl.brT ?_ | refine Tl.brF ?_ | refine Tl.gd_on ?_ | refine Tl.gd3_on ?_) | ((with_reducible first | apply Tl.brC | apply Tl.gdC | apply Tl.gd3C); focus (simp (disch := omega) only [coreA, Int.reduceBEq, base_Vl] <;> with_reducible rfl)))
    rw [List.drop_eq_nil_of_le (by omega), List.map_nil, List.append_nil] at hk
    exact hk _ _ _ _ S
  | succ n ih =>
    intro q j ps psv h hq hj hl S hk
    obtain ⟨j, rfl⟩ : ∃ q, j = q + 1 := ⟨j - 1, by omega⟩
    obtain ⟨x, ex⟩ : ∃ x, ns[q]? = some x := ⟨_, List.getElem?_eq_getElem (by omega)⟩
    obtain ⟨b, o, hp, hc⟩ := N.at_ ex
    have hc1 := S.grow.cell hc
    have e : (q : Int) + 1 = ((q + 1 : Nat) : Int) := by omega
    rw [drop_at ex, List.map_cons] at hk
    simp only [F36_lrlrrllrrllrlrr]
    unfold F36_rlrrllrrllrlrrllrrllrlrr
    by_cases q0 : 0 ≤ x
    · by_cases q1 : x < outs.length
      · obtain ⟨w, ew⟩ : ∃ w, outs[x.toNat]? = some w := ⟨_, List.getElem?_eq_getElem (by omega)⟩
        obtain ⟨b2, o2, hp2, hc2⟩ := (hB h _ S).at_ ew
        rw [show ((x.toNat : Nat) : Int) = x by omega] at hp2
        have el : lookB (2 : Int) outs x = w := by unfold lookB; rw [if_pos q0, ew]; rfl
        rw [el] at hk
        repeat (first | (with_reducible apply Tl.val; focus (simp (disch := omega) only [coreA, Int.reduceBEq, base_Vl, hp, hc1, hp2, hc2] <;> with_reducible rfl)) | (with_reducible first | refine Tl.brT ?_ | refine Tl.brF ?_ | refine Tl.gd_on ?_ | refine Tl.gd3_on ?_) | ((with_reducible first | apply Tl.brC | apply Tl.gdC | apply Tl.gd3C); focus (simp (disch := omega) only [coreA, Int.reduceBEq, base_Vl, hp, hc1, hp2, hc2] <;> with_reducible rfl)))
        refine Tl.push S 0 rfl app46 (bs46 _ _) rfl rfl (by rw [irows_len]; omega) fun v' h' S' => ?_
        repeat (first | (with_reducible apply Tl.val; focus (simp (disch := omega) only [coreA, Int.reduceBEq, base_Vl] <;> with_reducible rfl)) | (with_reducible first | refine Tl.brT ?_ | refine Tl.brF ?_ | refine Tl.gd_on ?_ | refine Tl.gd3_on ?_) | ((with_reducible first | apply Tl.brC | apply Tl.gdC | apply Tl.gd3C); focus (simp (disch := omega) only [coreA, Int.reduceBEq, base_Vl] <;> with_reducible rfl)))
        rw [e]
        refine ih (ps := ps ++ [w]) (by omega) (by omega) (by simp; omega) (by rw [← izsnoc]; exact S') fun psv' h'' y27 y28 S'' => ?_
        exact hk _ _ _ _ (by rw [List.append_assoc] at S''; exact S'')
      · have el : lookB (2 : Int) outs x = 2 := by unfold lookB; rw [if_pos q0, List.getElem?_eq_none (by omega)]; rfl
        rw [el] at hk
        repeat (first | (with_reducible apply Tl.val; focus (simp (disch := omega) only [coreA, Int.reduceBEq, base_Vl, hp, hc1] <;> with_reducible rfl)) | (with_reducible first | refine Tl.brT ?_ | refine Tl.brF ?_ | refine Tl.gd_on ?_ | refine Tl.gd3_on ?_) | ((with_reducible first | apply Tl.brC | apply Tl.gdC | apply Tl.gd3C); focus (simp (disch := omega) only [coreA, Int.reduceBEq, base_Vl, hp, hc1] <;> with_reducible rfl)))
        refine Tl.push S 0 rfl app46 (bs46 _ _) rfl rfl (by rw [irows_len]; omega) fun v' h' S' => ?_
        repeat (first | (with_reducible apply Tl.val; focus (simp (disch := omega) only [coreA, Int.reduceBEq, base_Vl] <;> with_reducible rfl)) | (with_reducible first | refine Tl.brT ?_ | refine Tl.brF ?_ | refine Tl.gd_on ?_ | refine Tl.gd3_on ?_) | ((with_reducible first | apply Tl.brC | apply Tl.gdC | apply Tl.gd3C); focus (simp (disch := omega) only [coreA, Int.reduceBEq, base_Vl] <;> with_reducible rfl)))
        rw [e]
        refine ih (ps := ps ++ [2]) (by omega) (by omega) (by simp; omega) (by rw [← izsnoc]; exact S') fun psv' h'' y27 y28 S'' => ?_
        exact hk _ _ _ _ (by rw [List.append_assoc] at S''; exact S'')
    · have el : lookB (2 : Int) outs x = 2 := by unfold lookB; rw [if_neg q0]
      rw [el] at hk
      repeat (first | (with_reducible apply Tl.val; focus (simp (disch := omega) only [coreA, Int.reduceBEq, base_Vl, hp, hc1] <;> with_reducible rfl)) | (with_reducible first | refine Tl.brT ?_ | refine Tl.brF ?_ | refine Tl.gd_on ?_ | refine Tl.gd3_on ?_) | ((with_reducible first | apply Tl.brC | apply Tl.gdC | apply Tl.gd3C); focus (simp (disch := omega) only [coreA, Int.reduceBEq, base_Vl, hp, hc1] <;> with_reducible rfl)))
      refine Tl.push S 0 rfl app46 (bs46 _ _) rfl rfl (by rw [irows_len]; omega) fun v' h' S' => ?_
      repeat (first | (with_reducible apply Tl.val; focus (simp (disch := omega) only [coreA, Int.reduceBEq, base_Vl] <;> with_reducible rfl)) | (with_reducible first | refine Tl.brT ?_ | refine Tl.brF ?_ | refine Tl.gd_on ?_ | refine Tl.gd3_on ?_) | ((with_reducible first | apply Tl.brC | apply Tl.gdC | apply Tl.gd3C); focus (simp (disch := omega) only [coreA, Int.reduceBEq, base_Vl] <;> with_reducible rfl)))
      rw [e]
      refine ih (ps := ps ++ [2]) (by omega) (by omega) (by simp; omega) (by rw [← izsnoc]; exact S') fun psv' h'' y27 y28 S'' => ?_
      exact hk _ _ _ _ (by rw [List.append_assoc] at S''; exact S'')
theorem f36_out {β : Type} {k : Nat} {Q : β → Prop} {h0 : AH} {v fv : Value} {bo : Nat} {l : List NodeD} {t : NodeD → List Int → Int} (PL : Preds h0 v l) (hl : l.length ≤ 900) (hps : ∀ nd ∈ l, nd.parts.length ≤ 900) (hk1 : 1000 < k)
    (hcall : ∀ (nd : NodeD) (a : Option Addr) (m c : Nat) (ps : List Int) (psv : Value) (h' : AH), Grow h0 h' → IntsZ h' psv ps → ps.length ≤ 1000 → Tl (callV (eInv env k) fv #[nval nd (.slice a m c), psv] h') fun r => r.1 = .int .i64 (t nd ps) ∧ Grow h' r.2)
    {ke0 : Value → Value → Value → Value → Value → Value → Value → Value → AH → Option β} (n : Nat) :
    ∀ {i j : Nat} {outs : List Int} {h : AH}, i + n = l.length → n < j → outs.length = i → Stt Try.prog h0.n h0 h [(bo, .cells (ocz outs l.length) 3 true)] [] →
      (∀ y1 y2 y3 y4 y5 y6 y7 h', Grow h0 h' → Tl (ke0 y1 y2 (.int .i64 ((goneL (2 : Int) t (l.drop i) outs).getLast?.getD 0)) y3 y4 y5 y6 y7 h') Q) →
      Tl (F36_lrlrr (eInv env k) k j (.int .i64 2) fv (.int .i64 (outs.getLast?.getD 0)) (.slice (some ⟨bo, 0, none⟩) i l.length) v (.int .i64 l.length) (.int .i64 i) h ke0) Q := by
  induction n with
  | zero =>
    intro i j outs h hi hj ho S hk
    obtain ⟨j, rfl⟩ : ∃ q, j = q + 1 := ⟨j - 1, by omega⟩
    simp only [F36_lrlrr]
    repeat (first | (with_reducible apply Tl.val; focus (simp (disch := omega) only [coreA, Int.reduceBEq, base_Vl] <;> with_reducible rfl)) | (with_reducible first | refine Tl.brT ?_ | refine Tl.brF ?_ | refine Tl.gd_on ?_ | refine Tl.gd3_on ?_) | ((with_reducible first | apply Tl.brC | apply Tl.gdC | apply Tl.gd3C); focus (simp (disch := omega) only [coreA, Int.reduceBEq, base_Vl] <;> with_reducible rfl)))
    rw [List.drop_eq_nil_of_le (by omega)] at hk
    exact hk _ _ _ _ _ _ _ _ S.grow
  | succ n ih =>
    intro i j outs h hi hj ho S hk
    obtain ⟨j, rfl⟩ : ∃ q, j = q + 1 := ⟨j - 1, by omega⟩
    obtain ⟨nd, ex⟩ : ∃ x, l[i]? = some x := ⟨_, List.getElem?_eq_getElem (by omega)⟩
    obtain ⟨b, o, pv, hp, hrow, N⟩ := PL.at_ ex
    have hnp := hps nd (List.mem_of_getElem? ex)
    have hrow1 := S.grow.row hrow
    have hv : ∀ h', pLen Try.prog #[46] pv h' = some (.int .i64 nd.parts.length) := fun h' => N.len
    obtain ⟨pa, pc, epv, _⟩ := SlZ.form N
    rw [irows_len] at epv
    subst epv
    have e : (i : Int) + 1 = ((i + 1 : Nat) : Int) := by omega
    rw [drop_at ex, goneL_snoc] at hk
    simp only [F36_lrlrr]
    repeat (first | (with_reducible apply Tl.val; focus (simp (disch := omega) only [coreA, Int.reduceBEq, base_Vl, hp, hrow1] <;> with_reducible rfl)) | (with_reducible first | refine Tl.brT ?_ | refine Tl.brF ?_ | refine Tl.gd_on ?_ | refine Tl.gd3_on ?_) | ((with_reducible first | apply Tl.brC | apply Tl.gdC | apply Tl.gd3C); focus (simp (disch := omega) only [coreA, Int.reduceBEq, base_Vl, hp, hrow1] <;> with_reducible rfl)))
    refine Tl.alloc' S ze48 (by rfl) fun b9 h1 S1 g1 => ?_
    refine Tl.store' S1 0 rfl sz48 rfl rfl (by simp [Value.cells]) fun h2 S2 k2 => ?_
    have S2 : Stt Try.prog h0.n h0 h2 [(b9, .cells (nrow nd (.slice pa nd.parts.length pc)) 48 true), (bo, .cells (ocz outs l.length) 3 true)] [] := S2
    have c5 : h2.cell b9 5 = some (.slice pa nd.parts.length pc) := S2.cell 0 rfl rfl
    repeat (first | (with_reducible apply Tl.val; focus (simp (disch := omega) only [coreA, Int.reduceBEq, base_Vl, c5, hv] <;> with_reducible rfl)) | (with_reducible first | refine Tl.brT ?_ | refine Tl.brF ?_ | refine Tl.gd_on ?_ | refine Tl.gd3_on ?_) | ((with_reducible first | apply Tl.brC | apply Tl.gdC | apply Tl.gd3C); focus (simp (disch := omega) only [coreA, Int.reduceBEq, base_Vl, c5, hv] <;> with_reducible rfl)))
    subst ho
    refine f36_in N (by omega) (by omega) (fun h' O' S' => ocz_bools S' (i := 1) rfl (by omega)) nd.parts.length (q := 0) (ps := []) (by omega) (by omega) rfl (S2.nil 1) fun psv h3 y27 y28 S3 => ?_
    rw [List.drop_zero, List.nil_append] at S3
    have r6 : h3.row b9 0 6 = some (nrow nd (.slice pa nd.parts.length pc)) := S3.row 0 rfl rfl
    repeat (first | (with_reducible apply Tl.val; focus (simp (disch := omega) only [coreA, Int.reduceBEq, base_Vl, r6] <;> with_reducible rfl)) | (with_reducible first | refine Tl.brT ?_ | refine Tl.brF ?_ | refine Tl.gd_on ?_ | refine Tl.gd3_on ?_) | ((with_reducible first | apply Tl.brC | apply Tl.gdC | apply Tl.gd3C); focus (simp (disch := omega) only [coreA, Int.reduceBEq, base_Vl, r6] <;> with_reducible rfl)))
    refine Tl.call' S3 (hcall nd pa nd.parts.length pc _ psv h3 S3.grow (S3.slV 0 rfl).z (by simp; omega)) fun h4 S4 g4 => ?_
    repeat (first | (with_reducible apply Tl.val; focus (simp (disch := omega) only [coreA, Int.reduceBEq, base_Vl] <;> with_reducible rfl)) | (with_reducible first | refine Tl.brT ?_ | refine Tl.brF ?_ | refine Tl.gd_on ?_ | refine Tl.gd3_on ?_) | ((with_reducible first | apply Tl.brC | apply Tl.gdC | apply Tl.gd3C); focus (simp (disch := omega) only [coreA, Int.reduceBEq, base_Vl] <;> with_reducible rfl)))
    refine Tl.pushK S4.dropO.drop 0 rfl app46 (bs46 _ _) rfl rfl (by omega) (by rw [ocz_len (by omega)]; omega) fun h5 S5 => ?_
    have S5 : Stt Try.prog h0.n h0 h5 [(bo, .cells (splice (ocz outs l.length) (outs.length * 1) [.int .i64 (t nd (nd.parts.map (lookB (2 : Int) outs)))]) 3 true)] [] := S5
    rw [ocz_push (by omega)] at S5
    repeat (first | (with_reducible apply Tl.val; focus (simp (disch := omega) only [coreA, Int.reduceBEq, base_Vl] <;> with_reducible rfl)) | (with_reducible first | refine Tl.brT ?_ | refine Tl.brF ?_ | refine Tl.gd_on ?_ | refine Tl.gd3_on ?_) | ((with_reducible first | apply Tl.brC | apply Tl.gdC | apply Tl.gd3C); focus (simp (disch := omega) only [coreA, Int.reduceBEq, base_Vl] <;> with_reducible rfl)))
    rw [e]
    have hlast : ((outs ++ [t nd (nd.parts.map (lookB (2 : Int) outs))]).getLast?.getD 0) = t nd (nd.parts.map (lookB (2 : Int) outs)) := by simp
    rw [← hlast]
    exact ih (outs := outs ++ [t nd (nd.parts.map (lookB (2 : Int) outs))]) (by omega) (by omega) (by simp) S5 hk
theorem f36c {k : Nat} {h : AH} {v fv : Value} {l : List NodeD} {t : NodeD → List Int → Int} (PL : Preds h v l) (hl : l.length ≤ 900) (hps : ∀ nd ∈ l, nd.parts.length ≤ 900) (hk1 : 1000 < k)
    (hcall : ∀ (nd : NodeD) (a : Option Addr) (m c : Nat) (ps : List Int) (psv : Value) (h' : AH), Grow h h' → IntsZ h' psv ps → ps.length ≤ 1000 → Tl (callV (eInv env k) fv #[nval nd (.slice a m c), psv] h') fun r => r.1 = .int .i64 (t nd ps) ∧ Grow h' r.2) :
    Tl (eInv env (k + 1) (.func 36) #[] #[v, .int .i64 2, fv] h) fun r => r.1 = .int .i64 ((goneL (2 : Int) t l []).getLast?.getD 0) ∧ Grow h r.2 := by
  rw [F36_call]
  unfold F36
  have hv : ∀ h', pLen Try.prog #[22] v h' = some (.int .i64 l.length) := fun h' => PL.len
  have em : pMakeSlice Try.prog 46 (.int .i64 0) (.int .i64 l.length) h = some (.slice (some ⟨h.n, 0, none⟩) 0 l.length, h.alloc (.cells (List.replicate l.length [Value.int .i64 0]).flatten 3 true)) := by
    have := app46
    unfold pMakeSlice
    have he : elemT Try.prog 46 = some 3 := this.elem
    have hz : zeroT Try.prog 3 = some (.int .i64 0) := ze3
    simp only [he, this.size, this.byt, hz]
    rw [if_pos]
    · rfl
    · exact ⟨by omega, by omega, by omega, by omega, rfl, rfl⟩
  repeat (first | (with_reducible apply Tl.val; focus (simp (disch := omega) only [coreA, Int.reduceBEq, base_Vl, hv, em] <;> with_reducible rfl)) | (with_reducible first | refine Tl.brT ?_ | refine Tl.brF ?_ | refine Tl.gd_on ?_ | refine Tl.gd3_on ?_) | ((with_reducible first | apply Tl.brC | apply Tl.gdC | apply Tl.gd3C); focus (simp (disch := omega) only [coreA, Int.reduceBEq, base_Vl, hv, em] <;> with_reducible rfl)))
  have S := (Stt.init h : Stt Try.prog h.n h h [] []).alloc (.cells (List.replicate l.length [Value.int .i64 0]).flatten 3 true)
  have eo : (List.replicate l.length [Value.int .i64 0]).flatten = ocz [] l.length := by simp [ocz, List.flatten_replicate_singleton]
  rw [eo] at S ⊢
  exact f36_out PL hl hps hk1 hcall l.length (i := 0) (outs := []) (by omega) (by omega) rfl S fun y1 y2 y3 y4 y5 y6 y7 h' g => ⟨_, rfl, rfl, g⟩
structure ZoneD where
  cnt : Int
  nul : Int
  mn : CellD
  mx : CellD
def zrow (z : ZoneD) : List Value := [.int .i64 z.cnt, .int .i64 z.nul, .int .i64 z.mn.k, .int .i64 z.mn.i, .string z.mn.s, .int .i64 z.mx.k, .int .i64 z.mx.i, .string z.mx.s]
def Zones (h : AH) (v : Value) (l : List ZoneD) : Prop := SlZ Try.prog h v 8 (l.map zrow)
theorem Zones.grow {h h' : AH} {v : Value} {l : List ZoneD} (S : Zones h v l) (g : Grow h h') : Zones h' v l := SlZ.grow S g
theorem Zones.len {h h' : AH} {v : Value} {l : List ZoneD} (S : Zones h v l) : pLen Try.prog #[38] v h' = some (.int .i64 l.length) := by
  have := SlZ.len S u38 (h' := h')
  rwa [List.length_map] at this
theorem Zones.at_ {h : AH} {v : Value} {l : List ZoneD} (S : Zones h v l) {i : Nat} {x : ZoneD} (hi : l[i]? = some x) :
    ∃ b o, pIndexAddr Try.prog 38 v (.int .i64 i) = some (.pointer (some ⟨b, o, none⟩)) ∧ h.row b o 8 = some (zrow x) :=
  SlZ.at_ S (k := .i64) (by simp [hi]) u38 sz58
def toldI (none all : Bool) : Int := if none then 1 else if all then 3 else 2
theorem f40e {k : Nat} (a b : Bool) (h : AH) : eInv env (k + 1) (.func 40) #[] #[.bool a, .bool b] h = some (.int .i64 (toldI a b), h) := by
  rw [F40_call]
  unfold F40 toldI
  cases a <;> cases b <;> rfl
/-- What is known of a comparison by a zone. -/
def zoneC (op : Int) (low high : Int) (null full all : Bool) : Int :=
  if op = 2 then toldI (null || (decide (low > 0) || decide (high < 0))) (full && (decide (low = 0) && decide (high = 0)))
  else if op = 3 then toldI (null || decide (low ≥ 0)) (full && decide (high < 0))
  else if op = 4 then toldI (null || decide (high ≤ 0)) (full && decide (low > 0))
  else toldI full all
def zoneB (nd : NodeD) (zs : List ZoneD) : Int :=
  if 0 ≤ nd.col then
    match zs[nd.col.toNat]? with
    | some z => zoneC nd.op (z.mn.cmp nd.val) (z.mx.cmp nd.val) (decide (z.mn.k = 0)) (decide (z.nul = 0)) (decide (z.nul = z.cnt))
    | none => 2
  else 2
theorem f39c {k : Nat} (nd : NodeD) {h : AH} {a : Option Addr} {m c : Nat} {zv : Value} {zs : List ZoneD} (Z : Zones h zv zs) (hl : zs.length ≤ 2 ^ 62) :
    Tl (eInv env (k + 20) (.func 39) #[] #[nval nd (.slice a m c), zv] h) fun r => r.1 = .int .i64 (zoneB nd zs) ∧ Grow h r.2 := by
  rw [F39_call]
  unfold F39
  refine Tl.box' (Stt.init h) rfl (by rw [sz48]; rfl) fun b1 h1 S1 g1 => ?_
  have S1 : Stt Try.prog h.n h h1 [(b1, .cells (nrow nd (.slice a m c)) 48 true)] [] := S1
  have c1 : h1.cell b1 1 = some (.int .i64 nd.col) := S1.cell 0 rfl rfl
  have hv : ∀ h', pLen Try.prog #[38] zv h' = some (.int .i64 zs.length) := fun h' => Z.len
  unfold zoneB
  by_cases q0 : 0 ≤ nd.col
  · rw [if_pos q0]
    by_cases q1 : nd.col < zs.length
    · obtain ⟨z, ez⟩ : ∃ x, zs[nd.col.toNat]? = some x := ⟨_, List.getElem?_eq_getElem (by omega)⟩
      obtain ⟨b, o, hp, hrow⟩ := Z.at_ ez
      rw [show ((nd.col.toNat : Nat) : Int) = nd.col by omega] at hp
      have hrow1 := g1.row hrow
      rw [ez]
      simp only
      repeat (first | (with_reducible apply Tl.val; focus (simp (disch := omega) only [coreA, Int.reduceBEq, base_Vl, c1, hv, hp, hrow1] <;> with_reducible rfl)) | (with_reducible first | refine Tl.brT ?_ | refine Tl.brF ?_ | refine Tl.gd_on ?_ | refine Tl.gd3_on ?_) | ((with_reducible first | apply Tl.brC | apply Tl.gdC | apply Tl.gd3C); focus (simp (disch := omega) only [coreA, Int.reduceBEq, base_Vl, c1, hv, hp, hrow1] <;> with_reducible rfl)))
      refine Tl.alloc' S1 ze58 (by rfl) fun b5 h2 S2 g2 => ?_
      refine Tl.store' S2 0 rfl sz58 rfl rfl (by simp [Value.cells]) fun h3 S3 k3 => ?_
      have S3 : Stt Try.prog h.n h h3 [(b5, .cells (zrow z) 58 true), (b1, .cells (nrow nd (.slice a m c)) 48 true)] [] := S3
      have rmn : h3.row b5 2 3 = some (crow z.mn) := S3.part 0 rfl (by simp [zrow]) rfl
      have rmx : h3.row b5 5 3 = some (crow z.mx) := S3.part 0 rfl (by simp [zrow]) rfl
      have rv : h3.row b1 2 3 = some (crow nd.val) := S3.part 1 rfl (by simp [nrow]) rfl
      repeat (first | (with_reducible apply Tl.val; focus (simp (disch := omega) only [coreA, Int.reduceBEq, base_Vl, rmn, rv] <;> with_reducible rfl)) | (with_reducible first | refine Tl.brT ?_ | refine Tl.brF ?_ | refine Tl.gd_on ?_ | refine Tl.gd3_on ?_) | ((with_reducible first | apply Tl.brC | apply Tl.gdC | apply Tl.gd3C); focus (simp (disch := omega) only [coreA, Int.reduceBEq, base_Vl, rmn, rv] <;> with_reducible rfl)))
      refine Tl.call' S3 (f46c (k := k + 10) z.mn nd.val h3) fun h4 S4 g4 => ?_
      have rmx4 : h4.row b5 5 3 = some (crow z.mx) := S4.part 0 rfl (by simp [zrow]) rfl
      have rv4 : h4.row b1 2 3 = some (crow nd.val) := S4.part 1 rfl (by simp [nrow]) rfl
      repeat (first | (with_reducible apply Tl.val; focus (simp (disch := omega) only [coreA, Int.reduceBEq, base_Vl, rmx4, rv4] <;> with_reducible rfl)) | (with_reducible first | refine Tl.brT ?_ | refine Tl.brF ?_ | refine Tl.gd_on ?_ | refine Tl.gd3_on ?_) | ((with_reducible first | apply Tl.brC | apply Tl.gdC | apply Tl.gd3C); focus (simp (disch := omega) only [coreA, Int.reduceBEq, base_Vl, rmx4, rv4] <;> with_reducible rfl)))
      refine Tl.call' S4 (f46c (k := k + 10) z.mx nd.val h4) fun h5 S5 g5 => ?_
      refine Tl.chk ?_ ?_
      · simp only [ld42, Option.map_some, rmx, rmx4, rv, rv4, sameO_some, same_cell, Bool.and_self, Bool.not_true, Bool.or_true, Bool.false_or, Bool.true_and]
      have d2 : h5.cell b5 2 = some (.int .i64 z.mn.k) := S5.cell 0 rfl rfl
      have d1 : h5.cell b5 1 = some (.int .i64 z.nul) := S5.cell 0 rfl rfl
      have d0 : h5.cell b5 0 = some (.int .i64 z.cnt) := S5.cell 0 rfl rfl
      have o0 : h5.cell b1 0 = some (.int .i64 nd.op) := S5.cell 1 rfl rfl
      have ht : ∀ a b h, eInv env (k + 19) (.func 40) #[] #[.bool a, .bool b] h = some (.int .i64 (toldI a b), h) := fun a b h => f40e (k := k + 18) a b h
      have e1 : (z.mn.k == 0) = decide (z.mn.k = 0) := by by_cases q : z.mn.k = 0 <;> simp [q]
      have e2 : (z.nul == 0) = decide (z.nul = 0) := by by_cases q : z.nul = 0 <;> simp [q]
      have e3 : (z.nul == z.cnt) = decide (z.nul = z.cnt) := by by_cases q : z.nul = z.cnt <;> simp [q]
      repeat (first | (with_reducible apply Tl.val; focus (simp (disch := omega) only [coreA, Int.reduceBEq, base_Vl, d2, d1, d0, o0, e1, e2] <;> with_reducible rfl)) | (with_reducible first | refine Tl.brT ?_ | refine Tl.brF ?_ | refine Tl.gd_on ?_ | refine Tl.gd3_on ?_) | ((with_reducible first | apply Tl.brC | apply Tl.gdC | apply Tl.gd3C); focus (simp (disch := omega) only [coreA, Int.reduceBEq, base_Vl, d2, d1, d0, o0, e1, e2] <;> with_reducible rfl)))
      generalize z.mn.cmp nd.val = low
      generalize z.mx.cmp nd.val = high
      unfold zoneC
      by_cases o2 : nd.op = 2
      · rw [if_pos o2]
        cases n : decide (z.mn.k = 0) <;> cases f : decide (z.nul = 0) <;> by_cases l1 : low > 0 <;> by_cases l2 : high < 0 <;> by_cases l3 : low = 0 <;> by_cases l4 : high = 0
        all_goals first
          | (exfalso; omega)
          | (simp only [l1, l2, l3, l4, decide_true, decide_false, Bool.or_true, Bool.true_or, Bool.or_false, Bool.false_or, Bool.and_true, Bool.true_and, Bool.and_false, Bool.false_and]
             repeat (first | (with_reducible apply Tl.val; focus (simp (disch := omega) only [coreA, Int.reduceBEq, base_Vl, ht] <;> with_reducible rfl)) | (with_reducible first | refine Tl.brT ?_ | refine Tl.brF ?_ | refine Tl.gd_on ?_ | refine Tl.gd3_on ?_) | ((with_reducible first | apply Tl.brC | apply Tl.gdC | apply Tl.gd3C); focus (simp (disch := omega) only [coreA, Int.reduceBEq, base_Vl, ht] <;> with_reducible rfl)))
             exact ⟨_, rfl, rfl, S5.grow⟩)
      rw [if_neg o2]
      by_cases o3 : nd.op = 3
      · rw [if_pos o3]
        cases n : decide (z.mn.k = 0) <;> cases f : decide (z.nul = 0) <;> by_cases l1 : low ≥ 0 <;> by_cases l2 : high < 0
        all_goals
          simp only [l1, l2, decide_true, decide_false, Bool.or_true, Bool.true_or, Bool.or_false, Bool.false_or, Bool.and_true, Bool.true_and, Bool.and_false, Bool.false_and]
          repeat (first | (with_reducible apply Tl.val; focus (simp (disch := omega) only [coreA, Int.reduceBEq, base_Vl, ht] <;> with_reducible rfl)) | (with_reducible first | refine Tl.brT ?_ | refine Tl.brF ?_ | refine Tl.gd_on ?_ | refine Tl.gd3_on ?_) | ((with_reducible first | apply Tl.brC | apply Tl.gdC | apply Tl.gd3C); focus (simp (disch := omega) only [coreA, Int.reduceBEq, base_Vl, ht] <;> with_reducible rfl)))
          exact ⟨_, rfl, rfl, S5.grow⟩
      rw [if_neg o3]
      by_cases o4 : nd.op = 4
      · rw [if_pos o4]
        cases n : decide (z.mn.k = 0) <;> cases f : decide (z.nul = 0) <;> by_cases l1 : high ≤ 0 <;> by_cases l2 : low > 0
        all_goals
          simp only [l1, l2, decide_true, decide_false, Bool.or_true, Bool.true_or, Bool.or_false, Bool.false_or, Bool.and_true, Bool.true_and, Bool.and_false, Bool.false_and]
          repeat (first | (with_reducible apply Tl.val; focus (simp (disch := omega) only [coreA, Int.reduceBEq, base_Vl, ht] <;> with_reducible rfl)) | (with_reducible first | refine Tl.brT ?_ | refine Tl.brF ?_ | refine Tl.gd_on ?_ | refine Tl.gd3_on ?_) | ((with_reducible first | apply Tl.brC | apply Tl.gdC | apply Tl.gd3C); focus (simp (disch := omega) only [coreA, Int.reduceBEq, base_Vl, ht] <;> with_reducible rfl)))
          exact ⟨_, rfl, rfl, S5.grow⟩
      rw [if_neg o4]
      repeat (first | (with_reducible apply Tl.val; focus (simp (disch := omega) only [coreA, Int.reduceBEq, base_Vl, d1, d0, e3, ht] <;> with_reducible rfl)) | (with_reducible first | refine Tl.brT ?_ | refine Tl.brF ?_ | refine Tl.gd_on ?_ | refine Tl.gd3_on ?_) | ((with_reducible first | apply Tl.brC | apply Tl.gdC | apply Tl.gd3C); focus (simp (disch := omega) only [coreA, Int.reduceBEq, base_Vl, d1, d0, e3, ht] <;> with_reducible rfl)))
      exact ⟨_, rfl, rfl, S5.grow⟩
    · rw [List.getElem?_eq_none (by omega)]
      repeat (first | (with_reducible apply Tl.val; focus (simp (disch := omega) only [coreA, Int.reduceBEq, base_Vl, c1, hv] <;> with_reducible rfl)) | (with_reducible first | refine Tl.brT ?_ | refine Tl.brF ?_ | refine Tl.gd_on ?_ | refine Tl.gd3_on ?_) | ((with_reducible first | apply Tl.brC | apply Tl.gdC | apply Tl.gd3C); focus (simp (disch := omega) only [coreA, Int.reduceBEq, base_Vl, c1, hv] <;> with_reducible rfl)))
      exact ⟨_, rfl, rfl, S1.grow⟩
  · rw [if_neg q0]
    repeat (first | (with_reducible apply Tl.val; focus (simp (disch := omega) only [coreA, Int.reduceBEq, base_Vl, c1, hv] <;> with_reducible rfl)) | (with_reducible first | refine Tl.brT ?_ | refine Tl.brF ?_ | refine Tl.gd_on ?_ | refine Tl.gd3_on ?_) | ((with_reducible first | apply Tl.brC | apply Tl.gdC | apply Tl.gd3C); focus (simp (disch := omega) only [coreA, Int.reduceBEq, base_Vl, c1, hv] <;> with_reducible rfl)))
    exact ⟨_, rfl, rfl, S1.grow⟩
/-! ### 'slices.Contains' and 'every' of numbers -/
theorem f54_loop {β : Type} {inv : Inv} {k : Nat} {Q : β → Prop} {h : AH} {v : Value} {l : List Int} {w : Int} (S : IntsZ h v l) (hl : l.length ≤ 2 ^ 30) {ke0 : Value → Value → Value → Value → Value → AH → Option β} {kr : Value → AH → Option β} (n : Nat) :
    ∀ {i j : Nat}, i + n = l.length → n < j → ((l.drop i).contains w = false → ∀ y1 y2 y3 y4 y5, Tl (ke0 y1 y2 y3 y4 y5 h) Q) → ((l.drop i).contains w = true → ∀ m : Nat, m < l.length → Tl (kr (.int .i64 (m : Nat)) h) Q) →
      Tl (F54_lrlr inv k j v (.int .i64 w) (.int .i64 l.length) (.int .i64 i) h ke0 kr) Q := by
  induction n with
  | zero =>
    intro i j hi hj hk hr
    obtain ⟨j, rfl⟩ : ∃ q, j = q + 1 := ⟨j - 1, by omega⟩
    simp only [F54_lrlr]
    repeat (first | (with_reducible apply Tl.val; focus (simp (disch := omega) only [coreA, Int.reduceBEq, base_Vl] <;> with_reducible rfl)) | (with_reducible first | refine Tl.brT ?_ | refine Tl.brF ?_ | refine Tl.gd_on ?_ | refine Tl.gd3_on ?_) | ((with_reducible first | apply Tl.brC | apply Tl.gdC | apply Tl.gd3C); focus (simp (disch := omega) only [coreA, Int.reduceBEq, base_Vl] <;> with_reducible rfl)))
    exact hk (by rw [List.drop_eq_nil_of_le (by omega)]; rfl) _ _ _ _ _
  | succ n ih =>
    intro i j hi hj hk hr
    obtain ⟨j, rfl⟩ : ∃ q, j = q + 1 := ⟨j - 1, by omega⟩
    obtain ⟨x, ex⟩ : ∃ x, l[i]? = some x := ⟨_, List.getElem?_eq_getElem (by omega)⟩
    obtain ⟨b, o, hp, hc⟩ := S.at_ ex
    have e : (i : Int) + 1 = ((i + 1 : Nat) : Int) := by omega
    rw [drop_at ex, List.contains_cons] at hk hr
    simp only [F54_lrlr]
    by_cases q : w = x
    · subst q
      rw [beq_self_eq_true, Bool.true_or] at hr
      repeat (first | (with_reducible apply Tl.val; focus (simp (disch := omega) only [coreA, Int.reduceBEq, base_Vl, hp, hc] <;> with_reducible rfl)) | (with_reducible first | refine Tl.brT ?_ | refine Tl.brF ?_ | refine Tl.gd_on ?_ | refine Tl.gd3_on ?_) | ((with_reducible first | apply Tl.brC | apply Tl.gdC | apply Tl.gd3C); focus (simp (disch := omega) only [coreA, Int.reduceBEq, base_Vl, hp, hc] <;> with_reducible rfl)))
      exact hr rfl i (by omega)
    · have en : (w == x) = false := beq_f q
      rw [en, Bool.false_or] at hk hr
      repeat (first | (with_reducible apply Tl.val; focus (simp (disch := omega) only [coreA, Int.reduceBEq, base_Vl, hp, hc, en] <;> with_reducible rfl)) | (with_reducible first | refine Tl.brT ?_ | refine Tl.brF ?_ | refine Tl.gd_on ?_ | refine Tl.gd3_on ?_) | ((with_reducible first | apply Tl.brC | apply Tl.gdC | apply Tl.gd3C); focus (simp (disch := omega) only [coreA, Int.reduceBEq, base_Vl, hp, hc, en] <;> with_reducible rfl)))
      rw [e]
      exact ih (by omega) (by omega) hk hr
theorem f38e {k : Nat} {h : AH} {v : Value} {l : List Int} (S : IntsZ h v l) (w : Int) (hl : l.length < k) (hl2 : l.length ≤ 2 ^ 30) : eInv env (k + 2) (.func 38) #[] #[v, .int .i64 w] h = some (.bool (l.contains w), h) := by
  rw [F38_call]
  unfold F38
  have hv : ∀ h', pLen Try.prog #[46] v h' = some (.int .i64 l.length) := fun h' => S.len
  have T : Tl (F54 (eInv env k) k v (.int .i64 w) h) fun r => r.2 = h ∧ ∃ z : Int, r.1 = .int .i64 z ∧ (decide (z ≥ 0)) = l.contains w := by
    unfold F54
    repeat (first | (with_reducible apply Tl.val; focus (simp (disch := omega) only [coreA, Int.reduceBEq, base_Vl, hv] <;> with_reducible rfl)) | (with_reducible first | refine Tl.brT ?_ | refine Tl.brF ?_ | refine Tl.gd_on ?_ | refine Tl.gd3_on ?_) | ((with_reducible first | apply Tl.brC | apply Tl.gdC | apply Tl.gd3C); focus (simp (disch := omega) only [coreA, Int.reduceBEq, base_Vl, hv] <;> with_reducible rfl)))
    refine f54_loop S hl2 l.length (i := 0) (by omega) hl (fun q y1 y2 y3 y4 y5 => ?_) fun q m hm => ?_
    · exact ⟨_, rfl, rfl, _, rfl, by rw [List.drop_zero] at q; rw [q]; rfl⟩
    · exact ⟨_, rfl, rfl, _, rfl, by rw [List.drop_zero] at q; rw [q]; simp⟩
  obtain ⟨⟨r1, r2⟩, h1, h2, z, h3, h4⟩ := T
  simp only at h2 h3
  subst h2 h3
  rw [F54_call, h1]
  simp only [bnd_some, bin_geq, h4]
def everyB (ps : List Int) (w : Int) : Bool := !(ps.any fun n => n != w)
theorem f41c {k : Nat} {h : AH} {v : Value} {l : List Int} (S : IntsZ h v l) (w : Int) (hl : l.length ≤ 1000) : Tl (eInv env (k + 1010) (.func 41) #[] #[v, .int .i64 w] h) fun r => r.1 = .bool (everyB l w) ∧ Grow h r.2 := by
  rw [F41_call]
  unfold F41
  refine Tl.box' (Stt.init h) rfl (by rw [sz3]; rfl) fun b1 h1 S1 g1 => ?_
  have c1 : h1.cell b1 0 = some (.int .i64 w) := S1.cell 0 rfl rfl
  have mf : pMakeFunc (Go.Fn.func 55) #[] #[.pointer (some ⟨b1, 0, none⟩)] = some (.func (.func 55) #[] #[.pointer (some ⟨b1, 0, none⟩)]) := rfl
  have hc : ∀ n, callV (eInv env (k + 1007)) (.func (.func 55) #[] #[.pointer (some ⟨b1, 0, none⟩)]) #[.int .i64 n] h1 = some (.bool (n != w), h1) := fun n => by
    rw [callV_cap1 (by kernel_rfl), F55_eq]
    unfold F55
    simp only [ld3, c1, bnd_some, bin_neq]
  have hf := f32e (k := k + 1007) (p := fun n => n != w) (S.grow g1) (by omega) (by omega) hc
  repeat (first | (with_reducible apply Tl.val; focus (simp (disch := omega) only [coreA, Int.reduceBEq, base_Vl, mf, hf] <;> with_reducible rfl)) | (with_reducible first | refine Tl.brT ?_ | refine Tl.brF ?_ | refine Tl.gd_on ?_ | refine Tl.gd3_on ?_) | ((with_reducible first | apply Tl.brC | apply Tl.gdC | apply Tl.gd3C); focus (simp (disch := omega) only [coreA, Int.reduceBEq, base_Vl, mf, hf] <;> with_reducible rfl)))
  exact ⟨_, rfl, rfl, S1.grow⟩
/-- What a node tells of zones, and of what its parts tell. -/
def tellZ (zs : List ZoneD) (nd : NodeD) (ps : List Int) : Int :=
  if 2 ≤ nd.op ∧ nd.op ≤ 5 then zoneB nd zs
  else if nd.op = 1 then 3
  else if nd.op = 6 then toldI (ps.contains 1) (everyB ps 3)
  else if nd.op = 7 then (if ps.contains 3 then 3 else toldI (everyB ps 1) false)
  else if nd.op = 8 then toldI (everyB ps 3) (ps.contains 1)
  else 2
theorem f37c {k : Nat} (nd : NodeD) {h : AH} {bc : Nat} {a : Option Addr} {m c : Nat} {zv psv : Value} {zs : List ZoneD} {ps : List Int} (hc : h.cell bc 0 = some zv) (Z : Zones h zv zs) (B : IntsZ h psv ps) (hl : zs.length ≤ 2 ^ 62) (hp : ps.length ≤ 1000) :
    Tl (callV (eInv env (k + 1100)) (.func (.func 37) #[] #[ptr bc]) #[nval nd (.slice a m c), psv] h) fun r => r.1 = .int .i64 (tellZ zs nd ps) ∧ Grow h r.2 := by
  rw [callV_cap2 (by kernel_rfl), F37_eq]
  unfold F37
  refine Tl.box' (Stt.init h) rfl (by rw [sz48]; rfl) fun b1 h1 S1 g1 => ?_
  have S1 : Stt Try.prog h.n h h1 [(b1, .cells (nrow nd (.slice a m c)) 48 true)] [] := S1
  have c0 : h1.cell b1 0 = some (.int .i64 nd.op) := S1.cell 0 rfl rfl
  have r6 : h1.row b1 0 6 = some (nrow nd (.slice a m c)) := S1.row 0 rfl rfl
  have hc1 := g1.cell hc
  unfold ptr tellZ
  have hf : ∀ w, eInv env (k + 1099) (.func 38) #[] #[psv, .int .i64 w] h1 = some (.bool (ps.contains w), h1) := fun w => f38e (k := k + 1097) (B.grow g1) w (by omega) (by omega)
  have he : ∀ op h, eInv env (k + 1099) (.func 26) #[] #[.int .i64 op] h = some (.bool (decide (2 ≤ op) && decide (op ≤ 5)), h) := fun op h => f26e (k := k + 1098) op h
  have ht : ∀ a b h, eInv env (k + 1099) (.func 40) #[] #[.bool a, .bool b] h = some (.int .i64 (toldI a b), h) := fun a b h => f40e (k := k + 1098) a b h
  by_cases q : 2 ≤ nd.op ∧ nd.op ≤ 5
  · rw [if_pos q]
    have q1 := q.1
    have q2 := q.2
    repeat (first | (with_reducible apply Tl.val; focus (simp (disch := omega) only [coreA, Int.reduceBEq, base_Vl, c0, he, r6, hc1, hf] <;> with_reducible rfl)) | (with_reducible first | refine Tl.brT ?_ | refine Tl.brF ?_ | refine Tl.gd_on ?_ | refine Tl.gd3_on ?_) | ((with_reducible first | apply Tl.brC | apply Tl.gdC | apply Tl.gd3C); focus (simp (disch := omega) only [coreA, Int.reduceBEq, base_Vl, c0, he, r6, hc1, hf] <;> with_reducible rfl)))
    refine Tl.call' S1 (f39c (k := k + 1079) nd (Z.grow g1) hl) fun h2 S2 g2 => ?_
    exact ⟨_, rfl, rfl, S2.grow⟩
  · rw [if_neg q]
    have hq : (decide (2 ≤ nd.op) && decide (nd.op ≤ 5)) = false := by
      rw [← Bool.decide_and]; exact decide_eq_false q
    by_cases q1 : nd.op = 1
    · rw [if_pos q1]
      repeat (first | (with_reducible apply Tl.val; focus (simp (disch := omega) only [coreA, Int.reduceBEq, base_Vl, c0, he, hq, q1, hf] <;> with_reducible rfl)) | (with_reducible first | refine Tl.brT ?_ | refine Tl.brF ?_ | refine Tl.gd_on ?_ | refine Tl.gd3_on ?_) | ((with_reducible first | apply Tl.brC | apply Tl.gdC | apply Tl.gd3C); focus (simp (disch := omega) only [coreA, Int.reduceBEq, base_Vl, c0, he, hq, q1, hf] <;> with_reducible rfl)))
      exact ⟨_, rfl, rfl, S1.grow⟩
    · rw [if_neg q1]
      by_cases q6 : nd.op = 6
      · rw [if_pos q6]
        repeat (first | (with_reducible apply Tl.val; focus (simp (disch := omega) only [coreA, Int.reduceBEq, base_Vl, c0, he, hq, q6, hf] <;> with_reducible rfl)) | (with_reducible first | refine Tl.brT ?_ | refine Tl.brF ?_ | refine Tl.gd_on ?_ | refine Tl.gd3_on ?_) | ((with_reducible first | apply Tl.brC | apply Tl.gdC | apply Tl.gd3C); focus (simp (disch := omega) only [coreA, Int.reduceBEq, base_Vl, c0, he, hq, q6, hf] <;> with_reducible rfl)))
        refine Tl.call' S1 (f41c (k := k + 89) (B.grow g1) 3 hp) fun h2 S2 g2 => ?_
        repeat (first | (with_reducible apply Tl.val; focus (simp (disch := omega) only [coreA, Int.reduceBEq, base_Vl, ht] <;> with_reducible rfl)) | (with_reducible first | refine Tl.brT ?_ | refine Tl.brF ?_ | refine Tl.gd_on ?_ | refine Tl.gd3_on ?_) | ((with_reducible first | apply Tl.brC | apply Tl.gdC | apply Tl.gd3C); focus (simp (disch := omega) only [coreA, Int.reduceBEq, base_Vl, ht] <;> with_reducible rfl)))
        exact ⟨_, rfl, rfl, S2.grow⟩
      · rw [if_neg q6]
        by_cases q7 : nd.op = 7
        · rw [if_pos q7]
          cases q3 : ps.contains (3 : Int) with
          | true =>
            have hf3 := hf 3
            rw [q3] at hf3
            repeat (first | (with_reducible apply Tl.val; focus (simp (disch := omega) only [coreA, Int.reduceBEq, base_Vl, c0, he, hq, q7, hf3, hf] <;> with_reducible rfl)) | (with_reducible first | refine Tl.brT ?_ | refine Tl.brF ?_ | refine Tl.gd_on ?_ | refine Tl.gd3_on ?_) | ((with_reducible first | apply Tl.brC | apply Tl.gdC | apply Tl.gd3C); focus (simp (disch := omega) only [coreA, Int.reduceBEq, base_Vl, c0, he, hq, q7, hf3, hf] <;> with_reducible rfl)))
            exact ⟨_, rfl, rfl, S1.grow⟩
          | false =>
            have hf3 := hf 3
            rw [q3] at hf3
            repeat (first | (with_reducible apply Tl.val; focus (simp (disch := omega) only [coreA, Int.reduceBEq, base_Vl, c0, he, hq, q7, hf3, hf] <;> with_reducible rfl)) | (with_reducible first | refine Tl.brT ?_ | refine Tl.brF ?_ | refine Tl.gd_on ?_ | refine Tl.gd3_on ?_) | ((with_reducible first | apply Tl.brC | apply Tl.gdC | apply Tl.gd3C); focus (simp (disch := omega) only [coreA, Int.reduceBEq, base_Vl, c0, he, hq, q7, hf3, hf] <;> with_reducible rfl)))
            refine Tl.call' S1 (f41c (k := k + 89) (B.grow g1) 1 hp) fun h2 S2 g2 => ?_
            repeat (first | (with_reducible apply Tl.val; focus (simp (disch := omega) only [coreA, Int.reduceBEq, base_Vl, ht] <;> with_reducible rfl)) | (with_reducible first | refine Tl.brT ?_ | refine Tl.brF ?_ | refine Tl.gd_on ?_ | refine Tl.gd3_on ?_) | ((with_reducible first | apply Tl.brC | apply Tl.gdC | apply Tl.gd3C); focus (simp (disch := omega) only [coreA, Int.reduceBEq, base_Vl, ht] <;> with_reducible rfl)))
            exact ⟨_, rfl, rfl, S2.grow⟩
        · rw [if_neg q7]
          by_cases q8 : nd.op = 8
          · rw [if_pos q8]
            repeat (first | (with_reducible apply Tl.val; focus (simp (disch := omega) only [coreA, Int.reduceBEq, base_Vl, c0, he, hq, q8, hf] <;> with_reducible rfl)) | (with_reducible first | refine Tl.brT ?_ | refine Tl.brF ?_ | refine Tl.gd_on ?_ | refine Tl.gd3_on ?_) | ((with_reducible first | apply Tl.brC | apply Tl.gdC | apply Tl.gd3C); focus (simp (disch := omega) only [coreA, Int.reduceBEq, base_Vl, c0, he, hq, q8, hf] <;> with_reducible rfl)))
            refine Tl.call' S1 (f41c (k := k + 89) (B.grow g1) 3 hp) fun h2 S2 g2 => ?_
            repeat (first | (with_reducible apply Tl.val; focus (simp (disch := omega) only [coreA, Int.reduceBEq, base_Vl, ht] <;> with_reducible rfl)) | (with_reducible first | refine Tl.brT ?_ | refine Tl.brF ?_ | refine Tl.gd_on ?_ | refine Tl.gd3_on ?_) | ((with_reducible first | apply Tl.brC | apply Tl.gdC | apply Tl.gd3C); focus (simp (disch := omega) only [coreA, Int.reduceBEq, base_Vl, ht] <;> with_reducible rfl)))
            exact ⟨_, rfl, rfl, S2.grow⟩
          · rw [if_neg q8]
            repeat (first | (with_reducible apply Tl.val; focus (simp (disch := omega) only [coreA, Int.reduceBEq, base_Vl, c0, he, hq, hf] <;> with_reducible rfl)) | (with_reducible first | refine Tl.brT ?_ | refine Tl.brF ?_ | refine Tl.gd_on ?_ | refine Tl.gd3_on ?_) | ((with_reducible first | apply Tl.brC | apply Tl.gdC | apply Tl.gd3C); focus (simp (disch := omega) only [coreA, Int.reduceBEq, base_Vl, c0, he, hq, hf] <;> with_reducible rfl)))
            exact ⟨_, rfl, rfl, S1.grow⟩
/-- What a predicate tells of zones. -/
def zoneL (zs : List ZoneD) (l : List NodeD) : Int := if l = [] then 3 else (goneL (2 : Int) (tellZ zs) l []).getLast?.getD 0
theorem f17c {k : Nat} {h : AH} {v zv : Value} {l : List NodeD} {zs : List ZoneD} (PL : Preds h v l) (Z : Zones h zv zs) (hl : l.length ≤ 900) (hps : ∀ nd ∈ l, nd.parts.length ≤ 900) (hr : zs.length ≤ 2 ^ 62) :
    Tl (eInv env (k + 1200) (.func 17) #[] #[v, zv] h) fun r => r.1 = .int .i64 (zoneL zs l) ∧ Grow h r.2 := by
  rw [F17_call]
  unfold F17
  obtain ⟨ra, rc, er, _⟩ := SlZ.form Z
  have hkn : kn zv = true := by rw [er]; rfl
  refine Tl.box' (Stt.init h) hkn (by kernel_rfl) fun bc h1 S1 g1 => ?_
  have hc : h1.cell bc 0 = some zv := by
    have := S1.sta.mem.at_ (i := 0) rfl
    simp only [SlZ.cells Z] at this
    rw [cell_of this]
    rfl
  have hv : ∀ h', pLen Try.prog #[22] v h' = some (.int .i64 l.length) := fun h' => PL.len
  unfold zoneL
  by_cases q : l = []
  · rw [if_pos q]
    subst q
    repeat (first | (with_reducible apply Tl.val; focus (simp (disch := omega) only [coreA, Int.reduceBEq, base_Vl, hv] <;> with_reducible rfl)) | (with_reducible first | refine Tl.brT ?_ | refine Tl.brF ?_ | refine Tl.gd_on ?_ | refine Tl.gd3_on ?_) | ((with_reducible first | apply Tl.brC | apply Tl.gdC | apply Tl.gd3C); focus (simp (disch := omega) only [coreA, Int.reduceBEq, base_Vl, hv] <;> with_reducible rfl)))
    exact ⟨_, rfl, rfl, S1.grow⟩
  · rw [if_neg q]
    have hne : ¬ (l.length : Int) = 0 := by
      have := List.length_pos_iff.2 q
      omega
    have mf : pMakeFunc (Go.Fn.func 37) #[] #[.pointer (some ⟨bc, 0, none⟩)] = some (.func (.func 37) #[] #[ptr bc]) := rfl
    repeat (first | (with_reducible apply Tl.val; focus (simp (disch := omega) only [coreA, Int.reduceBEq, base_Vl, hv, mf] <;> with_reducible rfl)) | (with_reducible first | refine Tl.brT ?_ | refine Tl.brF ?_ | refine Tl.gd_on ?_ | refine Tl.gd3_on ?_) | ((with_reducible first | apply Tl.brC | apply Tl.gdC | apply Tl.gd3C); focus (simp (disch := omega) only [coreA, Int.reduceBEq, base_Vl, hv, mf] <;> with_reducible rfl)))
    refine Tl.call' S1 (f36c (k := k + 1198) (t := tellZ zs) (PL.grow g1) hl hps (by omega) fun nd a m c ps psv h' g B hp => ?_) fun h2 S2 g2 => ?_
    · exact f37c (k := k + 98) nd (g.cell hc) ((Z.grow g1).grow g) B hr hp
    · exact ⟨_, rfl, rfl, S2.grow⟩
end Go.Proofs.Ytmhgihjmhmihpaa.Sh
