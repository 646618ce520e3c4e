/- What 'batch.One' makes of rows. -/
import Derived.Test.YtjmfokglckaneaaSzVs
set_option linter.unusedVariables false
set_option linter.unusedSimpArgs false
set_option maxRecDepth 100000
namespace Go.Proofs.Ytjmfokglckaneaa.Sh
open Go Go.RowKit Go.Proofs.Ev
theorem base_Vt : type_of% (And.intro @ld3 (And.intro @ld36 (And.intro @ld37 (And.intro @ld45 (And.intro @ld23 (And.intro @ld35 (And.intro @ld39 (And.intro @fa39_0 (And.intro @fa39_1 (And.intro @fa39_2 (And.intro @fa39_3 (And.intro @fa39_4 (@Nat.add_zero))))))))))))) := And.intro @ld3 (And.intro @ld36 (And.intro @ld37 (And.intro @ld45 (And.intro @ld23 (And.intro @ld35 (And.intro @ld39 (And.intro @fa39_0 (And.intro @fa39_1 (And.intro @fa39_2 (And.intro @fa39_3 (And.intro @fa39_4 (@Nat.add_zero))))))))))))
theorem outs_at {rs : RS} {i : Nat} {q : Value × List CellD} (h : rs[i]? = some q) : (outs rs)[i]? = some [q.1] := by unfold outs; rw [List.getElem?_map, h]; rfl
theorem owns_mem {rs : RS} {i : Nat} {q : Value × List CellD} {O : List OS} (h : rs[i]? = some q) : (q.1, 3, q.2.map crow) ∈ owns rs ++ O :=
  List.mem_append.2 (.inl (List.mem_map.2 ⟨q, List.mem_of_getElem? h, rfl⟩))
/-- The cell that holds a row's slice. -/
theorem outer_at {P : Program} {h : AH} {v : Value} {t e : TypeId} {ws : List (List Value)} {i : Nat} {w : Value} (S : SlV P h v 1 ws) (hi : ws[i]? = some [w]) (hu : P.underlying t = some (.slice e)) (hs : szT P e = some 1) :
    ∃ b o, pIndexAddr P t v (.int .i64 i) = some (.pointer (some ⟨b, o, none⟩)) ∧ h.cell b o = some w := by
  obtain ⟨b, o, h1, h2⟩ := S.z.at_ (k := .i64) hi hu hs
  exact ⟨b, o, h1, by simpa using Ev.cell_of_row (j := 0) h2 (by omega)⟩
section
variable {n0 : Nat} {h0 : AH} {L : List (Nat × AO)} {O : List OS} {x0 fv : Value} {rs : RS} {p : List CellD → Bool}
theorem f60_loop {β : Type} {k : Nat} {Q : β → Prop} (hl : rs.length ≤ 2 ^ 40) (hcall : ∀ h' w r, Mem h' L → Grow h0 h' → Cells h' w r → (∃ q ∈ rs, r = q.2) → Tl (callV (eInv env k) fv #[w] h') fun q => q.1 = .bool (p r) ∧ Grow h' q.2)
    {ke0 : Value → Value → Value → Value → Value → AH → Option β} {kr : Value → AH → Option β} (n : Nat) :
    ∀ {i j : Nat} {h : AH}, i + n = rs.length → n < j → Stt Try.prog h0.n h0 h L ((x0, 1, outs rs) :: (owns rs ++ O)) → (∀ q ∈ rs.take i, p q.2 = false) →
      ((∀ q ∈ rs, p q.2 = false) → ∀ h' y1 y2 y3, Grow h h' → Tl (ke0 x0 fv y1 y2 y3 h') Q) →
      (∀ (m : Nat) q h', rs[m]? = some q → p q.2 = true → (∀ q ∈ rs.take m, p q.2 = false) → Grow h h' → Tl (kr (.int .i64 m) h') Q) →
      Tl (F60_lrlr (eInv env k) k j x0 fv (.int .i64 rs.length) (.int .i64 i) h ke0 kr) Q := by
  induction n with
  | zero =>
    intro i j h hi hj S ha hk hr
    obtain ⟨j, rfl⟩ : ∃ q, j = q + 1 := ⟨j - 1, by omega⟩
    simp only [F60_lrlr]
    repeat (first | (with_reducible apply Tl.val; focus (simp (disch := omega) only [coreA, Int.reduceBEq, base_Vt] <;> with_reducible rfl)) | (with_reducible first | refine Tl.brT ?_ | refine Tl.brF ?_ | refine Tl.gd_on ?_ | refine Tl.gd3_on ?_) | ((with_reducible first | apply Tl.brC | apply Tl.gdC | apply Tl.gd3C); focus (simp (disch := omega) only [coreA, Int.reduceBEq, base_Vt] <;> with_reducible rfl)))
    exact hk (by rwa [List.take_of_length_le (by omega)] at ha) _ _ _ _ (Grow.refl _)
  | succ n ih =>
    intro i j h hi hj S ha hk hr
    obtain ⟨j, rfl⟩ : ∃ q, j = q + 1 := ⟨j - 1, by omega⟩
    obtain ⟨x, ex⟩ : ∃ x, rs[i]? = some x := ⟨_, List.getElem?_eq_getElem (by omega)⟩
    obtain ⟨b, o, hp, hc⟩ := outer_at (S.slV 0 rfl) (outs_at ex) u23 sz37
    have e : (i : Int) + 1 = ((i + 1 : Nat) : Int) := by omega
    simp only [F60_lrlr]
    repeat (first | (with_reducible apply Tl.val; focus (simp (disch := omega) only [coreA, Int.reduceBEq, base_Vt, hp, hc] <;> with_reducible rfl)) | (with_reducible first | refine Tl.brT ?_ | refine Tl.brF ?_ | refine Tl.gd_on ?_ | refine Tl.gd3_on ?_) | ((with_reducible first | apply Tl.brC | apply Tl.gdC | apply Tl.gd3C); focus (simp (disch := omega) only [coreA, Int.reduceBEq, base_Vt, hp, hc] <;> with_reducible rfl)))
    refine Tl.bind (hcall h x.1 x.2 S.sta.mem S.grow (ownRow S.dropO (owns_mem ex)) ⟨x, List.mem_of_getElem? ex, rfl⟩) ?_
    rintro ⟨r, h1⟩ ⟨er, g1⟩
    simp only at er g1
    subst er
    cases q : p x.2 with
    | true =>
      repeat (first | (with_reducible apply Tl.val; focus (simp (disch := omega) only [coreA, Int.reduceBEq, base_Vt] <;> with_reducible rfl)) | (with_reducible first | refine Tl.brT ?_ | refine Tl.brF ?_ | refine Tl.gd_on ?_ | refine Tl.gd3_on ?_) | ((with_reducible first | apply Tl.brC | apply Tl.gdC | apply Tl.gd3C); focus (simp (disch := omega) only [coreA, Int.reduceBEq, base_Vt] <;> with_reducible rfl)))
      exact hr i x _ ex q ha g1
    | false =>
      repeat (first | (with_reducible apply Tl.val; focus (simp (disch := omega) only [coreA, Int.reduceBEq, base_Vt] <;> with_reducible rfl)) | (with_reducible first | refine Tl.brT ?_ | refine Tl.brF ?_ | refine Tl.gd_on ?_ | refine Tl.gd3_on ?_) | ((with_reducible first | apply Tl.brC | apply Tl.gdC | apply Tl.gd3C); focus (simp (disch := omega) only [coreA, Int.reduceBEq, base_Vt] <;> with_reducible rfl)))
      rw [e]
      refine ih (by omega) (by omega) (S.call g1) (fun y hy => ?_) (fun a h' y1 y2 y3 g => hk a h' y1 y2 y3 (g1.trans g)) fun m y h' a1 a2 a3 g => hr m y h' a1 a2 a3 (g1.trans g)
      rw [List.take_add_one, ex, List.mem_append] at hy
      rcases hy with hy | hy
      · exact ha y hy
      · simp at hy; rw [hy]; exact q
theorem f60c {k : Nat} {h : AH} (hl : rs.length ≤ 2 ^ 40) (hk : rs.length < k) (S : Stt Try.prog h0.n h0 h L ((x0, 1, outs rs) :: (owns rs ++ O)))
    (hcall : ∀ h' w r, Mem h' L → Grow h0 h' → Cells h' w r → (∃ q ∈ rs, r = q.2) → Tl (callV (eInv env k) fv #[w] h') fun q => q.1 = .bool (p r) ∧ Grow h' q.2) :
    Tl (eInv env (k + 1) (.func 60) #[] #[x0, fv] h) fun r => Grow h r.2 ∧ (r.1 = .int .i64 (-1) ∧ (∀ q ∈ rs, p q.2 = false) ∨ ∃ (m : Nat) (q : Value × List CellD), r.1 = .int .i64 m ∧ rs[m]? = some q ∧ p q.2 = true ∧ ∀ q ∈ rs.take m, p q.2 = false) := by
  rw [F60_call]
  unfold F60
  have hv : ∀ h', pLen Try.prog #[23] x0 h' = some (.int .i64 rs.length) := fun h' => by
    have := (S.slV 0 rfl).len (h' := h') u23
    rwa [outs_len] at this
  repeat (first | (with_reducible apply Tl.val; focus (simp (disch := omega) only [coreA, Int.reduceBEq, base_Vt, hv] <;> with_reducible rfl)) | (with_reducible first | refine Tl.brT ?_ | refine Tl.brF ?_ | refine Tl.gd_on ?_ | refine Tl.gd3_on ?_) | ((with_reducible first | apply Tl.brC | apply Tl.gdC | apply Tl.gd3C); focus (simp (disch := omega) only [coreA, Int.reduceBEq, base_Vt, hv] <;> with_reducible rfl)))
  exact f60_loop hl hcall rs.length (i := 0) (by omega) hk S (fun q hq => by simp at hq) (fun a h' y1 y2 y3 g => ⟨_, rfl, g, .inl ⟨rfl, a⟩⟩) fun m q h' a1 a2 a3 g => ⟨_, rfl, g, .inr ⟨m, q, rfl, a1, a2, a3⟩⟩
/-- Rows that are not meant. -/
def kept (p : List CellD → Bool) (rs : RS) : RS := rs.filter fun q => !p q.2
theorem kept_len (p : List CellD → Bool) (rs : RS) : (kept p rs).length ≤ rs.length := List.length_filter_le ..
theorem kept_none {rs : RS} (h : ∀ q ∈ rs, p q.2 = false) : kept p rs = rs := List.filter_eq_self.2 fun q hq => by rw [h q hq]; rfl
theorem rowsOf_kept : ∀ rs : RS, rowsOf (kept p rs) = (rowsOf rs).filter fun r => !p r
  | [] => rfl
  | q :: rs => by
    have ih := rowsOf_kept rs
    unfold kept rowsOf at *
    cases e : p q.2 <;> simp [e, ih]
theorem f36_loop {β : Type} {k : Nat} {Q : β → Prop} (hl : rs.length ≤ 2 ^ 40) (hcall : ∀ h' w r, Mem h' L → Grow h0 h' → Cells h' w r → (∃ q ∈ rs, r = q.2) → Tl (callV (eInv env k) fv #[w] h') fun q => q.1 = .bool (p r) ∧ Grow h' q.2)
    {ke0 : Value → Value → Value → Value → Value → AH → Option β} (n : Nat) :
    ∀ {i j : Nat} {h : AH} {gap : List (List Value)}, i + n = rs.length → n < j → (kept p (rs.take i)).length + gap.length = i → gap ≠ [] →
      Stt Try.prog h0.n h0 h L ((x0, 1, (outs (kept p (rs.take i)) ++ gap) ++ outs (rs.drop i)) :: (owns rs ++ O)) →
      (∀ h' gap y1 y2, gap ≠ [] → (kept p rs).length + gap.length = rs.length → Stt Try.prog h0.n h0 h' L ((x0, 1, outs (kept p rs) ++ gap) :: (owns rs ++ O)) → Tl (ke0 x0 fv (.int .i64 (kept p rs).length) y1 y2 h') Q) →
      Tl (F36_lrlrrr (eInv env k) k j x0 fv (.int .i64 (kept p (rs.take i)).length) (.int .i64 i) h ke0) Q := by
  induction n with
  | zero =>
    intro i j h gap hi hj hg hg0 S hk
    obtain ⟨j, rfl⟩ : ∃ q, j = q + 1 := ⟨j - 1, by omega⟩
    have hv : ∀ h', pLen Try.prog #[23] x0 h' = some (.int .i64 rs.length) := fun h' => by
      have := (S.slV 0 rfl).len (h' := h') u23
      rw [this]
      simp [outs_len]
      omega
    rw [List.drop_eq_nil_of_le (by omega : rs.length ≤ i)] at S
    rw [List.take_of_length_le (by omega : rs.length ≤ i)] at S hg ⊢
    have S : Stt Try.prog h0.n h0 h L ((x0, 1, (outs (kept p rs) ++ gap) ++ []) :: (owns rs ++ O)) := S
    rw [List.append_nil] at S
    simp only [F36_lrlrrr]
    repeat (first | (with_reducible apply Tl.val; focus (simp (disch := omega) only [coreA, Int.reduceBEq, base_Vt, hv] <;> with_reducible rfl)) | (with_reducible first | refine Tl.brT ?_ | refine Tl.brF ?_ | refine Tl.gd_on ?_ | refine Tl.gd3_on ?_) | ((with_reducible first | apply Tl.brC | apply Tl.gdC | apply Tl.gd3C); focus (simp (disch := omega) only [coreA, Int.reduceBEq, base_Vt, hv] <;> with_reducible rfl)))
    exact hk _ gap _ _ hg0 (by omega) S
  | succ n ih =>
    intro i j h gap hi hj hg hg0 S hk
    obtain ⟨j, rfl⟩ : ∃ q, j = q + 1 := ⟨j - 1, by omega⟩
    obtain ⟨x, ex⟩ : ∃ x, rs[i]? = some x := ⟨_, List.getElem?_eq_getElem (by omega)⟩
    have hv : ∀ h', pLen Try.prog #[23] x0 h' = some (.int .i64 rs.length) := fun h' => by
      have := (S.slV 0 rfl).len (h' := h') u23
      rw [this]
      simp [outs_len]
      omega
    have hlen : (outs (kept p (rs.take i)) ++ gap).length = i := by rw [List.length_append, outs_len, hg]
    have hat : ((outs (kept p (rs.take i)) ++ gap) ++ outs (rs.drop i))[i]? = some [x.1] := by
      rw [List.getElem?_append_right (by omega), hlen, Nat.sub_self, drop_at ex]
      rfl
    obtain ⟨b, o, hp, hc⟩ := outer_at (S.slV 0 rfl) hat u23 sz37
    have e : (i : Int) + 1 = ((i + 1 : Nat) : Int) := by omega
    have C := ownRow S.dropO (owns_mem ex)
    obtain ⟨wa, wc, ew, _⟩ := SlZ.form C
    have htk : rs.take (i + 1) = rs.take i ++ [x] := by rw [List.take_add_one, ex]; rfl
    simp only [F36_lrlrrr, F36_lrllrlrrr]
    repeat (first | (with_reducible apply Tl.val; focus (simp (disch := omega) only [coreA, Int.reduceBEq, base_Vt, hv, hp, hc] <;> with_reducible rfl)) | (with_reducible first | refine Tl.brT ?_ | refine Tl.brF ?_ | refine Tl.gd_on ?_ | refine Tl.gd3_on ?_) | ((with_reducible first | apply Tl.brC | apply Tl.gdC | apply Tl.gd3C); focus (simp (disch := omega) only [coreA, Int.reduceBEq, base_Vt, hv, hp, hc] <;> with_reducible rfl)))
    refine Tl.bind (hcall h x.1 x.2 S.sta.mem S.grow C ⟨x, List.mem_of_getElem? ex, rfl⟩) ?_
    rintro ⟨r, h1⟩ ⟨er, g1⟩
    simp only at er g1
    subst er
    have S1 := S.call g1
    cases q : p x.2 with
    | true =>
      have hkp : kept p (rs.take (i + 1)) = kept p (rs.take i) := by
        rw [htk]; unfold kept; rw [List.filter_append]; simp [q]
      repeat (first | (with_reducible apply Tl.val; focus (simp (disch := omega) only [coreA, Int.reduceBEq, base_Vt, hv] <;> with_reducible rfl)) | (with_reducible first | refine Tl.brT ?_ | refine Tl.brF ?_ | refine Tl.gd_on ?_ | refine Tl.gd3_on ?_) | ((with_reducible first | apply Tl.brC | apply Tl.gdC | apply Tl.gd3C); focus (simp (disch := omega) only [coreA, Int.reduceBEq, base_Vt, hv] <;> with_reducible rfl)))
      rw [e, ← hkp]
      refine ih (gap := gap ++ [[x.1]]) (by omega) (by omega) (by rw [hkp]; simp; omega) (by simp) ?_ hk
      rw [hkp]
      rw [drop_at ex] at S1
      have : outs (kept p (rs.take i)) ++ gap ++ outs (x :: rs.drop (i + 1)) = outs (kept p (rs.take i)) ++ (gap ++ [[x.1]]) ++ outs (rs.drop (i + 1)) := by
        unfold outs; simp
      rwa [this] at S1
    | false =>
      have hkp : kept p (rs.take (i + 1)) = kept p (rs.take i) ++ [x] := by
        rw [htk]; unfold kept; rw [List.filter_append]; simp [q]
      obtain ⟨g, gap', rfl⟩ : ∃ g gap', gap = g :: gap' := by
        cases gap with
        | nil => exact absurd rfl hg0
        | cons g gap' => exact ⟨g, gap', rfl⟩
      have hle : (kept p (rs.take i)).length < i := by simp at hg; omega
      obtain ⟨b4, hb4, hx⟩ := S1.idx 0 rfl (t := 23) (kd := .i64) (j := (kept p (rs.take i)).length) (by simp [outs_len]) u23 sz37
      have e2 : ((kept p (rs.take i)).length : Int) + 1 = ((kept p (rs.take (i + 1))).length : Nat) := by rw [hkp]; simp
      repeat (first | (with_reducible apply Tl.val; focus (simp (disch := omega) only [coreA, Int.reduceBEq, base_Vt, hv, hx] <;> with_reducible rfl)) | (with_reducible first | refine Tl.brT ?_ | refine Tl.brF ?_ | refine Tl.gd_on ?_ | refine Tl.gd3_on ?_) | ((with_reducible first | apply Tl.brC | apply Tl.gdC | apply Tl.gd3C); focus (simp (disch := omega) only [coreA, Int.reduceBEq, base_Vt, hv, hx] <;> with_reducible rfl)))
      refine Tl.setAt S1 0 rfl hb4 (by simp [outs_len]) (by rw [ew]; rfl) sz37 (by rw [ew]; rfl) fun h' S2 => ?_
      have S2 : Stt Try.prog h0.n h0 h' L ((x0, 1, (outs (kept p (rs.take i)) ++ g :: gap' ++ outs (rs.drop i)).set (kept p (rs.take i)).length x.1.cells.toList) :: (owns rs ++ O)) := S2
      repeat (first | (with_reducible apply Tl.val; focus (simp (disch := omega) only [coreA, Int.reduceBEq, base_Vt] <;> with_reducible rfl)) | (with_reducible first | refine Tl.brT ?_ | refine Tl.brF ?_ | refine Tl.gd_on ?_ | refine Tl.gd3_on ?_) | ((with_reducible first | apply Tl.brC | apply Tl.gdC | apply Tl.gd3C); focus (simp (disch := omega) only [coreA, Int.reduceBEq, base_Vt] <;> with_reducible rfl)))
      rw [e, e2]
      refine ih (gap := gap' ++ [[x.1]]) (by omega) (by omega) (by rw [hkp]; simp at hg ⊢; omega) (by simp) ?_ hk
      rw [hkp]
      have : (outs (kept p (rs.take i)) ++ g :: gap' ++ outs (rs.drop i)).set (kept p (rs.take i)).length x.1.cells.toList = outs (kept p (rs.take i) ++ [x]) ++ (gap' ++ [[x.1]]) ++ outs (rs.drop (i + 1)) := by
        rw [drop_at ex, List.append_assoc, List.set_append, if_neg (by rw [outs_len]; omega), outs_len, Nat.sub_self, SlZ.cells C]
        unfold outs
        simp
      rwa [this] at S2
/-- What is left of rows. -/
theorem f36c {k : Nat} {h : AH} (hl : rs.length ≤ 2 ^ 40) (hk : rs.length < k) (S : Stt Try.prog h0.n h0 h L ((x0, 1, outs rs) :: (owns rs ++ O)))
    (hcall : ∀ k' h' w r, k ≤ k' → Mem h' L → Grow h0 h' → Cells h' w r → (∃ q ∈ rs, r = q.2) → Tl (callV (eInv env k') fv #[w] h') fun q => q.1 = .bool (p r) ∧ Grow h' q.2) :
    Tl (eInv env (k + 2) (.func 36) #[] #[x0, fv] h) fun r => ∃ F, Stt Try.prog h0.n h0 r.2 (F ++ L) (owns (kept p rs) ++ O) ∧ ∀ h', Mem h' F → SlV Try.prog h' r.1 1 (outs (kept p rs)) ∧ SzV Try.prog h' r.1 1 := by
  rw [F36_call]
  unfold F36
  refine Tl.bind (f60c hl hk S fun h' w r => hcall k h' w r (Nat.le_refl _)) ?_
  rintro ⟨r, h1⟩ ⟨g1, q⟩
  simp only at g1 q
  have S1 := S.call g1
  rcases q with ⟨rfl, hn⟩ | ⟨m, y, rfl, a1, a2, a3⟩
  · repeat (first | (with_reducible apply Tl.val; focus (simp (disch := omega) only [coreA, Int.reduceBEq, base_Vt] <;> with_reducible rfl)) | (with_reducible first | refine Tl.brT ?_ | refine Tl.brF ?_ | refine Tl.gd_on ?_ | refine Tl.gd3_on ?_) | ((with_reducible first | apply Tl.brC | apply Tl.gdC | apply Tl.gd3C); focus (simp (disch := omega) only [coreA, Int.reduceBEq, base_Vt] <;> with_reducible rfl)))
    obtain ⟨F, S2, hF⟩ := S1.freezeS
    exact ⟨_, rfl, F, by rw [kept_none hn]; exact S2, by rw [kept_none hn]; exact hF⟩
  · have hm : m < rs.length := (List.getElem?_eq_some_iff.1 a1).1
    have hkm : kept p (rs.take m) = rs.take m := kept_none a3
    have hk1 : kept p (rs.take (m + 1)) = rs.take m := by
      rw [List.take_add_one, a1]; unfold kept; rw [List.filter_append]
      have : List.filter (fun q => !p q.2) (rs.take m) = rs.take m := hkm
      rw [this]; simp [a2]
    have e : (m : Int) + 1 = ((m + 1 : Nat) : Int) := by omega
    have e2 : Value.int .i64 (m : Int) = .int .i64 ((kept p (rs.take (m + 1))).length : Nat) := by rw [hk1]; simp; omega
    repeat (first | (with_reducible apply Tl.val; focus (simp (disch := omega) only [coreA, Int.reduceBEq, base_Vt] <;> with_reducible rfl)) | (with_reducible first | refine Tl.brT ?_ | refine Tl.brF ?_ | refine Tl.gd_on ?_ | refine Tl.gd3_on ?_) | ((with_reducible first | apply Tl.brC | apply Tl.gdC | apply Tl.gd3C); focus (simp (disch := omega) only [coreA, Int.reduceBEq, base_Vt] <;> with_reducible rfl)))
    rw [e]
    show Tl (F36_lrlrrr (eInv env (k + 1)) (k + 1) (k + 1) x0 fv (.int .i64 (m : Int)) _ _ _) _
    rw [e2]
    refine f36_loop (O := O) hl (fun h' w r => hcall (k + 1) h' w r (by omega)) (rs.length - (m + 1)) (i := m + 1) (gap := [[y.1]]) (by omega) (by omega) (by rw [hk1]; simp; omega) (by simp) ?_ fun h2 gap y1 y2 hg0 hgl S2 => ?_
    · rw [hk1]
      have : outs rs = outs (rs.take m) ++ [[y.1]] ++ outs (rs.drop (m + 1)) := by
        unfold outs
        rw [List.append_assoc, List.singleton_append]
        have : [y.1] :: List.map (fun p => [p.1]) (rs.drop (m + 1)) = List.map (fun p => [p.1]) (rs.drop m) := by rw [drop_at a1]; rfl
        rw [this, ← List.map_append, List.take_append_drop]
      rwa [this] at S1
    · rcases S2.expose with ⟨_, q, _⟩ | ⟨b, cs, ee, rfl, hc, hs, S3⟩
      · exact absurd (List.append_eq_nil_iff.1 q).2 hg0
      · have hgp : 0 < gap.length := List.length_pos_iff.2 hg0
        have hml : (outs (kept p rs) ++ gap).length = rs.length := by rw [List.length_append, outs_len, hgl]
        have hc := hc (by intro q; exact hg0 (List.append_eq_nil_iff.1 q).2)
        rw [hml] at hc ⊢
        have hel : elemT Try.prog 23 = some 37 := el23
        have hg := S3.sta.mem.at_ (i := 0) rfl
        have hz : szOk Try.prog (some ⟨b, 0, none⟩) 1 h2 = true := by
          unfold szOk
          simp only [hg, hs]
          rfl
        obtain ⟨w, hw⟩ : ∃ w, w = (kept p rs).length := ⟨_, rfl⟩
        rw [← hw] at hgl ⊢
        have b1 : pSlice Try.prog 23 (.slice (some ⟨b, 0, none⟩) rs.length rs.length) (some (.int .i64 (w : Int))) none none h2 = some (.slice (some ⟨b, w, none⟩) (rs.length - w) (rs.length - w)) := by
          unfold pSlice
          simp only [hel, Option.bind_some, sz37, intOr]
          rw [if_pos ⟨by omega, by omega, by omega, by omega, .inl rfl, .inr (.inr hz)⟩]
          simp
        have b2 : ∀ h', pSlice Try.prog 23 (.slice (some ⟨b, 0, none⟩) rs.length rs.length) none (some (.int .i64 (w : Int))) none h' = some (.slice (some ⟨b, 0, none⟩) w rs.length) := fun h' => by
          unfold pSlice
          simp only [hel, Option.bind_some, sz37, intOr]
          rw [if_pos ⟨by omega, by omega, by omega, by omega, .inl rfl, .inl trivial⟩]
          simp
        have hzl : (List.replicate (rs.length - w) (Value.slice none 0 0).cells.toList).flatten.length = rs.length - w := by rw [flat_rep]; simp [Value.cells]
        have b3 : kSt (pClear Try.prog #[23] (.slice (some ⟨b, w, none⟩) (rs.length - w) (rs.length - w)) h2) = some (unk, h2.set b (.cells (splice cs w (List.replicate (rs.length - w) (Value.slice none 0 0).cells.toList).flatten) ee true)) := by
          unfold pClear
          simp only [List.getElem?_toArray, List.getElem?_cons_zero, Option.bind_some, hel, ze37]
          rw [if_neg (by omega), if_pos (by rfl)]
          unfold AH.put
          rw [hg]
          simp only
          rw [if_pos (by rw [hzl]; omega)]
          rfl
        repeat (first | (with_reducible apply Tl.val; focus (simp (disch := omega) only [coreA, Int.reduceBEq, base_Vt, b1, b2, b3] <;> with_reducible rfl)) | (with_reducible first | refine Tl.brT ?_ | refine Tl.brF ?_ | refine Tl.gd_on ?_ | refine Tl.gd3_on ?_) | ((with_reducible first | apply Tl.brC | apply Tl.gdC | apply Tl.gd3C); focus (simp (disch := omega) only [coreA, Int.reduceBEq, base_Vt, b1, b2, b3] <;> with_reducible rfl)))
        have S4 := (S3.set 0 rfl (.cells (splice cs w (List.replicate (rs.length - w) (Value.slice none 0 0).cells.toList).flatten) ee true))
        refine ⟨_, rfl, [(b, _)], S4.subO ?_, fun h' hm' => ⟨.inr ⟨b, 0, rs.length, true, ?_, ?_, ⟨⟨_, ee, hm'.1, fun _ => ⟨?_, ?_⟩⟩, ?_⟩⟩, fun a m c q => (by cases q; exact szOk_of hm'.1 hs)⟩⟩
        · refine List.Sublist.append ?_ (List.Sublist.refl _)
          exact List.Sublist.map _ List.filter_sublist
        · rw [outs_len, ← hw]
        · rw [outs_len, ← hw]; omega
        · rw [outs_len, ← hw]; unfold splice; simp; omega
        · rw [outs_len, ← hw, List.drop_zero]
          have hf : (outs (kept p rs)).flatten.length = w := by
            rw [length_flat (n := 1) (fun r hr => by unfold outs at hr; obtain ⟨q, _, rfl⟩ := List.mem_map.1 hr; rfl), outs_len, hw]; omega
          have h5 := hc.2
          rw [List.drop_zero, List.flatten_append] at h5
          have h6 : (splice cs w (List.replicate (rs.length - w) (Value.slice none 0 0).cells.toList).flatten).take (w * 1) = cs.take w := by
            unfold splice
            rw [Nat.mul_one, List.append_assoc, List.take_append_of_le_length (by simp; omega), List.take_take, Nat.min_self]
          rw [h6]
          have h7 := congrArg (List.take w) h5
          rwa [List.take_take, Nat.min_eq_left (show w ≤ rs.length * 1 by omega), List.take_append_of_le_length (show w ≤ (outs (kept p rs)).flatten.length by omega), List.take_of_length_le (show (outs (kept p rs)).flatten.length ≤ w by omega)] at h7
        · intro r hr; unfold outs at hr; obtain ⟨q, _, rfl⟩ := List.mem_map.1 hr; rfl
end
end Go.Proofs.Ytjmfokglckaneaa.Sh
