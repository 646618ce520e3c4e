/- What a change makes of a row; the loops of 'BatchOrder'. -/
import Derived.Test.YtjmfokglckaneaaSzB1
import Derived.Test.YtjmfokglckaneaaSzWn
import Derived.Test.YtjmfokglckaneaaSzWr
set_option linter.unusedVariables false
set_option linter.unusedSimpArgs false
set_option maxRecDepth 100000
namespace Go.Proofs.Ytjmfokglckaneaa.Sh
open Go Go.RowKit Go.Proofs.Ev
theorem base_B3 : type_of% (And.intro @ld3 (And.intro @ld36 (And.intro @ld35 (And.intro @ld37 (And.intro @ld45 (And.intro @ld23 (And.intro @ld39 (And.intro @fa39_0 (And.intro @fa39_1 (And.intro @fa39_2 (And.intro @fa39_3 (And.intro @fa39_4 (@Nat.add_zero))))))))))))) := And.intro @ld3 (And.intro @ld36 (And.intro @ld35 (And.intro @ld37 (And.intro @ld45 (And.intro @ld23 (And.intro @ld39 (And.intro @fa39_0 (And.intro @fa39_1 (And.intro @fa39_2 (And.intro @fa39_3 (And.intro @fa39_4 (@Nat.add_zero))))))))))))
/-- The last cell that is put into a column. -/
def foldW (w : CellD) (k : Nat) : List Int → List CellD → CellD
  | c :: cs, t :: ts => foldW (if c = (k : Int) then t else w) k cs ts
  | _, _ => w
theorem foldW_nil (w : CellD) (k : Nat) (ts : List CellD) : foldW w k [] ts = w := by simp [foldW]
theorem foldW_nil2 (w : CellD) (k : Nat) (cs : List Int) : foldW w k cs [] = w := by cases cs <;> simp [foldW]
theorem setL_get (k : Nat) : ∀ (cs : List Int) (row ts : List CellD) (w : CellD), row[k]? = some w → (setL row cs ts)[k]? = some (foldW w k cs ts)
  | [], row, ts, w, h => by rw [setL_z, foldW_nil]; exact h
  | _ :: _, row, [], w, h => by rw [setL_nil, foldW_nil2]; exact h
  | c :: cs, row, t :: ts, w, h => by
    have hk := (List.getElem?_eq_some_iff.1 h).1
    unfold setL foldW
    refine setL_get k cs _ ts _ ?_
    by_cases q : 0 ≤ c ∧ c < row.length
    · rw [if_pos q]
      by_cases e : c = (k : Int)
      · subst e
        rw [if_pos rfl, Int.toNat_natCast, List.getElem?_set_self hk]
      · rw [if_neg e, List.getElem?_set_ne (by omega), h]
    · rw [if_neg q, if_neg (by omega), h]
theorem filter_at {α : Type} {p : α → Bool} : ∀ {l : List α} {i : Nat} {x : α}, l[i]? = some x → p x = true → (l.filter p)[((l.take i).filter p).length]? = some x
  | a :: l, 0, x, h, hp => by
    simp at h; subst h
    simp [hp]
  | a :: l, i + 1, x, h, hp => by
    have ih := filter_at (l := l) (i := i) (by simpa using h) hp
    cases q : p a <;> simp [q, ih]
theorem filter_snoc {α : Type} {p : α → Bool} {l : List α} {i : Nat} {x : α} (h : l[i]? = some x) : ((l.take (i + 1)).filter p).length = ((l.take i).filter p).length + if p x then 1 else 0 := by
  rw [List.take_add_one, h, List.filter_append, List.length_append]
  cases q : p x <;> simp [q]
/-- Is a row meant by a change that meets rows? -/
def hitB (c : ChangeD) (r : List CellD) : Bool := decide (c.kind ≠ 1) && meant c r
def staysB (c : ChangeD) (r : List CellD) : Bool := !(hitB c r && decide (c.kind = 2))
def outR (c : ChangeD) (r : List CellD) : List CellD := if hitB c r then setL r c.cols c.to else r
theorem one_eq {c : ChangeD} (rows : List (List CellD)) (h : bareB c = true) : oneR rows c = (rows.filter (staysB c)).map (outR c) ++ if c.kind = 1 then c.rows else [] := by
  unfold oneR
  by_cases k1 : c.kind = 1
  · rw [if_pos k1, if_pos k1]
    have h1 : ∀ r, hitB c r = false := fun r => by simp [hitB, k1]
    have h2 : rows.filter (staysB c) = rows := List.filter_eq_self.2 fun r _ => by simp [staysB, h1]
    rw [h2]
    congr 1
    have : outR c = id := funext fun r => by simp [outR, h1]
    rw [this, List.map_id]
  · rw [if_neg k1, if_neg k1, List.append_nil]
    by_cases k2 : c.kind = 2
    · rw [if_pos k2]
      have h1 : (fun r => !meant c r) = staysB c := funext fun r => by simp [staysB, hitB, k2]
      rw [h1]
      have : ∀ r ∈ rows.filter (staysB c), outR c r = r := fun r hr => by
        have := (List.mem_filter.1 hr).2
        unfold staysB at this
        rw [k2] at this
        simp at this
        simp [outR, this]
      have e := List.map_congr_left this
      rw [e, List.map_id']
    · rw [if_neg k2]
      have k3 : c.kind = 3 := by
        unfold bareB at h
        rw [if_neg k1, if_neg k2] at h
        by_cases q : c.kind = 3
        · exact q
        · rw [if_neg q] at h; cases h
      rw [if_pos k3]
      have h2 : rows.filter (staysB c) = rows := List.filter_eq_self.2 fun r _ => by simp [staysB, k3]
      rw [h2]
      refine List.map_congr_left fun r _ => ?_
      simp [updR, outR, hitB, k3]
theorem bare_kind {c : ChangeD} (h : bareB c = true) : c.kind = 1 ∨ c.kind = 2 ∨ c.kind = 3 := by
  unfold bareB at h
  by_cases k1 : c.kind = 1
  · exact .inl k1
  · by_cases k2 : c.kind = 2
    · exact .inr (.inl k2)
    · by_cases k3 : c.kind = 3
      · exact .inr (.inr k3)
      · rw [if_neg k1, if_neg k2, if_neg k3] at h; cases h
section
variable {β : Type} {inv : Inv} {k : Nat} {Q : β → Prop} {hB : AH} {b5 : Nat} {rv pv cv tv : Value} {c : ChangeD}
theorem f4_j {x1 x8 x9 x10 x11 x12 : Value} {hit : Bool} {m b15 : Nat} (h5 : hB.get b5 = some (.cells (chrow c.kind rv pv cv tv) 39 true)) (I : IntsZ hB cv c.cols) (T : Cells hB tv c.to) (hcl : c.cols.length ≤ 1000) (hct : c.cols.length ≤ c.to.length) (hm : m ≤ 2 ^ 40)
    {ke4 : Value → Value → Value → Value → Value → Value → Value → Value → Value → Value → Value → Value → AH → Option β} (n : Nat) :
    ∀ {i j : Nat} {h : AH} {w : CellD}, i + n = c.cols.length → n < j → Stt Try.prog hB.n hB h [(b15, .cells (crow w) 45 true)] [] →
      (∀ h' y1 y2, Stt Try.prog hB.n hB h' [(b15, .cells (crow (if hit then foldW w m (c.cols.drop i) (c.to.drop i) else w)) 45 true)] [] → Tl (ke4 x1 (.pointer (some ⟨b5, 0, none⟩)) x8 x9 x10 x11 x12 (.bool hit) (.int .i64 m) (.pointer (some ⟨b15, 0, none⟩)) y1 y2 h') Q) →
      Tl (F4_lrlrllrllrlrrrrllrllrlrrrrrrr inv k j x1 (.pointer (some ⟨b5, 0, none⟩)) x8 x9 x10 x11 x12 (.bool hit) (.int .i64 m) (.pointer (some ⟨b15, 0, none⟩)) (.int .i64 i) h ke4) Q := by
  have hv : ∀ h', pLen Try.prog #[36] cv h' = some (.int .i64 c.cols.length) := fun h' => I.len
  induction n with
  | zero =>
    intro i j h w hi hj S hk
    obtain ⟨j, rfl⟩ : ∃ q, j = q + 1 := ⟨j - 1, by omega⟩
    have c3 : h.cell b5 3 = some cv := cell_of (S.grow.get h5)
    rw [List.drop_eq_nil_of_le (by omega : c.cols.length ≤ i), foldW_nil] at hk
    have hk' := hk h
    simp only [F4_lrlrllrllrlrrrrllrllrlrrrrrrr]
    cases hit
    · repeat (first | (with_reducible apply Tl.val; focus (simp (disch := omega) only [coreA, Int.reduceBEq, base_B3, c3, hv] <;> with_reducible rfl)) | (with_reducible first | refine Tl.brT ?_ | refine Tl.brF ?_ | refine Tl.gd_on ?_ | refine Tl.gd3_on ?_) | ((with_reducible first | apply Tl.brC | apply Tl.gdC | apply Tl.gd3C); focus (simp (disch := omega) only [coreA, Int.reduceBEq, base_B3, c3, hv] <;> with_reducible rfl)))
      exact hk' _ _ S
    · repeat (first | (with_reducible apply Tl.val; focus (simp (disch := omega) only [coreA, Int.reduceBEq, base_B3, c3, hv] <;> with_reducible rfl)) | (with_reducible first | refine Tl.brT ?_ | refine Tl.brF ?_ | refine Tl.gd_on ?_ | refine Tl.gd3_on ?_) | ((with_reducible first | apply Tl.brC | apply Tl.gdC | apply Tl.gd3C); focus (simp (disch := omega) only [coreA, Int.reduceBEq, base_B3, c3, hv] <;> with_reducible rfl)))
      exact hk' _ _ S
  | succ n ih =>
    intro i j h w hi hj S hk
    obtain ⟨j, rfl⟩ : ∃ q, j = q + 1 := ⟨j - 1, by omega⟩
    obtain ⟨x, ex⟩ : ∃ x, c.cols[i]? = some x := ⟨_, List.getElem?_eq_getElem (by omega)⟩
    obtain ⟨t, et⟩ : ∃ x, c.to[i]? = some x := ⟨_, List.getElem?_eq_getElem (by omega)⟩
    obtain ⟨b, o, hp, hc⟩ := (I.grow S.grow).at_ ex
    obtain ⟨b', o', hp', hrow'⟩ := (T.grow S.grow).at_ et
    have c3 : h.cell b5 3 = some cv := cell_of (S.grow.get h5)
    have c4 : h.cell b5 4 = some tv := cell_of (S.grow.get h5)
    have e : (i : Int) + 1 = ((i + 1 : Nat) : Int) := by omega
    simp only [F4_lrlrllrllrlrrrrllrllrlrrrrrrr, F4_lrllrlrllrllrlrrrrllrllrlrrrrrrr]
    cases hit
    · repeat (first | (with_reducible apply Tl.val; focus (simp (disch := omega) only [coreA, Int.reduceBEq, base_B3, c3, hv] <;> with_reducible rfl)) | (with_reducible first | refine Tl.brT ?_ | refine Tl.brF ?_ | refine Tl.gd_on ?_ | refine Tl.gd3_on ?_) | ((with_reducible first | apply Tl.brC | apply Tl.gdC | apply Tl.gd3C); focus (simp (disch := omega) only [coreA, Int.reduceBEq, base_B3, c3, hv] <;> with_reducible rfl)))
      exact hk _ _ _ S
    · rw [drop_at ex, drop_at et] at hk
      simp only [if_true, foldW] at hk
      by_cases q : x = (m : Int)
      · rw [if_pos q] at hk
        repeat (first | (with_reducible apply Tl.val; focus (simp (disch := omega) only [coreA, Int.reduceBEq, base_B3, c3, hv, hp, hc, c4, hp', hrow'] <;> with_reducible rfl)) | (with_reducible first | refine Tl.brT ?_ | refine Tl.brF ?_ | refine Tl.gd_on ?_ | refine Tl.gd3_on ?_) | ((with_reducible first | apply Tl.brC | apply Tl.gdC | apply Tl.gd3C); focus (simp (disch := omega) only [coreA, Int.reduceBEq, base_B3, c3, hv, hp, hc, c4, hp', hrow'] <;> with_reducible rfl)))
        refine Tl.store' S 0 rfl sz45 rfl rfl (by simp [crow]) fun h2 S2 k2 => ?_
        have S2 : Stt Try.prog hB.n hB h2 [(b15, .cells (crow t) 45 true)] [] := S2
        repeat (first | (with_reducible apply Tl.val; focus (simp (disch := omega) only [coreA, Int.reduceBEq, base_B3] <;> with_reducible rfl)) | (with_reducible first | refine Tl.brT ?_ | refine Tl.brF ?_ | refine Tl.gd_on ?_ | refine Tl.gd3_on ?_) | ((with_reducible first | apply Tl.brC | apply Tl.gdC | apply Tl.gd3C); focus (simp (disch := omega) only [coreA, Int.reduceBEq, base_B3] <;> with_reducible rfl)))
        rw [e]
        exact ih (by omega) (by omega) S2 hk
      · rw [if_neg q] at hk
        repeat (first | (with_reducible apply Tl.val; focus (simp (disch := omega) only [coreA, Int.reduceBEq, base_B3, c3, hv, hp, hc] <;> with_reducible rfl)) | (with_reducible first | refine Tl.brT ?_ | refine Tl.brF ?_ | refine Tl.gd_on ?_ | refine Tl.gd3_on ?_) | ((with_reducible first | apply Tl.brC | apply Tl.gdC | apply Tl.gd3C); focus (simp (disch := omega) only [coreA, Int.reduceBEq, base_B3, c3, hv, hp, hc] <;> with_reducible rfl)))
        rw [e]
        exact ih (by omega) (by omega) S hk
theorem f4_k {x9 x10 ov : Value} {hit : Bool} {i a ba oa bb ob : Nat} {wa wb : Value} {row orow : List CellD} (h5 : hB.get b5 = some (.cells (chrow c.kind rv pv cv tv) 39 true)) (I : IntsZ hB cv c.cols) (T : Cells hB tv c.to) (hcl : c.cols.length ≤ 1000) (hct : c.cols.length ≤ c.to.length)
    {x1 : Value} (hpa : pIndexAddr Try.prog 23 x1 (.int .i64 i) = some (.pointer (some ⟨ba, oa, none⟩))) (hca : hB.cell ba oa = some wa) (A : Cells hB wa row) (hpb : pIndexAddr Try.prog 23 ov (.int .i64 a) = some (.pointer (some ⟨bb, ob, none⟩))) (hcb : hB.cell bb ob = some wb) (B : Cells hB wb orow)
    (hl : row.length ≤ 1000) (hlen : orow.length = row.length) (hk1 : 1000 < k) (hw : ∀ m w, row[m]? = some w → orow[m]? = some (if hit then foldW w m c.cols c.to else w))
    {ke2 : Value → Value → Value → Value → Value → Value → Value → Value → Value → Value → AH → Option β} {kr : Value → AH → Option β} (n : Nat) :
    ∀ {m j : Nat} {h : AH}, m + n = row.length → n < j → Grow hB h →
      (∀ h' y1 y2, Grow hB h' → Tl (ke2 x1 (.pointer (some ⟨b5, 0, none⟩)) ov x9 x10 (.int .i64 a) (.int .i64 i) (.bool hit) y1 y2 h') Q) →
      Tl (F4_lrlrrrrllrllrlrrrrrrr inv k j x1 (.pointer (some ⟨b5, 0, none⟩)) ov x9 x10 (.int .i64 a) (.int .i64 i) (.bool hit) (.int .i64 m) h ke2 kr) Q := by
  have hv : ∀ h', pLen Try.prog #[37] wa h' = some (.int .i64 row.length) := fun h' => A.len
  induction n with
  | zero =>
    intro m j h hm hj g hk
    obtain ⟨j, rfl⟩ : ∃ q, j = q + 1 := ⟨j - 1, by omega⟩
    have hca1 := g.cell hca
    simp only [F4_lrlrrrrllrllrlrrrrrrr]
    repeat (first | (with_reducible apply Tl.val; focus (simp (disch := omega) only [coreA, Int.reduceBEq, base_B3, hpa, hca1, hv] <;> with_reducible rfl)) | (with_reducible first | refine Tl.brT ?_ | refine Tl.brF ?_ | refine Tl.gd_on ?_ | refine Tl.gd3_on ?_) | ((with_reducible first | apply Tl.brC | apply Tl.gdC | apply Tl.gd3C); focus (simp (disch := omega) only [coreA, Int.reduceBEq, base_B3, hpa, hca1, hv] <;> with_reducible rfl)))
    exact hk _ _ _ g
  | succ n ih =>
    intro m j h hm hj g hk
    obtain ⟨j, rfl⟩ : ∃ q, j = q + 1 := ⟨j - 1, by omega⟩
    obtain ⟨w, ew⟩ : ∃ x, row[m]? = some x := ⟨_, List.getElem?_eq_getElem (by omega)⟩
    have hca1 := g.cell hca
    obtain ⟨b, o, hp, hrow⟩ := (A.grow g).at_ ew
    have e : (m : Int) + 1 = ((m + 1 : Nat) : Int) := by omega
    simp only [F4_lrlrrrrllrllrlrrrrrrr]
    repeat (first | (with_reducible apply Tl.val; focus (simp (disch := omega) only [coreA, Int.reduceBEq, base_B3, hpa, hca1, hv, hp, hrow] <;> with_reducible rfl)) | (with_reducible first | refine Tl.brT ?_ | refine Tl.brF ?_ | refine Tl.gd_on ?_ | refine Tl.gd3_on ?_) | ((with_reducible first | apply Tl.brC | apply Tl.gdC | apply Tl.gd3C); focus (simp (disch := omega) only [coreA, Int.reduceBEq, base_B3, hpa, hca1, hv, hp, hrow] <;> with_reducible rfl)))
    refine Tl.alloc' (Stt.init h) ze45 (by rfl) fun b15 h1 S1 g1 => ?_
    refine Tl.store' S1 0 rfl sz45 rfl rfl (by simp [Value.cells]) fun h2 S2 k2 => ?_
    have S2 : Stt Try.prog h.n h h2 [(b15, .cells (crow w) 45 true)] [] := S2
    refine f4_j (hB := h) (g.get h5) (I.grow g) (T.grow g) hcl hct (by omega) c.cols.length (i := 0) (by omega) (by omega) S2 fun h3 y1 y2 S3 => ?_
    rw [List.drop_zero, List.drop_zero] at S3
    have g3 := g.trans S3.grow
    have hcb3 := g3.cell hcb
    obtain ⟨b', o', hp', hrow'⟩ := (B.grow g3).at_ (hw m w ew)
    have r15 : h3.row b15 0 3 = some (crow (if hit = true then foldW w m c.cols c.to else w)) := S3.row 0 rfl rfl
    have hne : ∀ ox oy, pBin Try.prog .neq 45 ox oy (.agg (crow (if hit = true then foldW w m c.cols c.to else w)).toArray) (.agg (crow (if hit = true then foldW w m c.cols c.to else w)).toArray) = some (.bool false) := fun ox oy => by
      have := neqC (if hit = true then foldW w m c.cols c.to else w) (if hit = true then foldW w m c.cols c.to else w) (x := ox) (y := oy)
      rw [decide_eq_true rfl] at this
      exact this
    repeat (first | (with_reducible apply Tl.val; focus (simp (disch := omega) only [coreA, Int.reduceBEq, base_B3, hpb, hcb3, hp', hrow', r15, hne] <;> with_reducible rfl)) | (with_reducible first | refine Tl.brT ?_ | refine Tl.brF ?_ | refine Tl.gd_on ?_ | refine Tl.gd3_on ?_) | ((with_reducible first | apply Tl.brC | apply Tl.gdC | apply Tl.gd3C); focus (simp (disch := omega) only [coreA, Int.reduceBEq, base_B3, hpb, hcb3, hp', hrow', r15, hne] <;> with_reducible rfl)))
    rw [e]
    exact ih (by omega) (by omega) g3 hk
end
section
variable {β : Type} {k : Nat} {Q : β → Prop} {hB : AH} {b5 : Nat} {rv crv pv cv tv ov : Value} {c : ChangeD} {rows : List (List CellD)}
theorem f4_out {x9 : Value} (h5 : hB.get b5 = some (.cells (chrow c.kind crv pv cv tv) 39 true)) (F : ChangeF hB crv pv cv tv c) (ok : ChOk c) (hcl : c.cols.length ≤ 1000) (hct : c.cols.length ≤ c.to.length) (R : Rows hB rv rows) (Ou : Rows hB ov (oneR rows c)) (hb : bareB c = true)
    (hl : rows.length ≤ 1000) (hl2 : (oneR rows c).length ≤ 10000) (hr : ∀ r ∈ rows, r.length ≤ 1000)
    {ke0 : Value → Value → Value → Value → Value → Value → Value → Value → AH → Option β} {kr : Value → AH → Option β} (n : Nat) :
    ∀ {i j : Nat} {h : AH}, i + n = rows.length → n < j → Grow hB h →
      (∀ h' y1 y2, Grow hB h' → Tl (ke0 rv (.pointer (some ⟨b5, 0, none⟩)) ov x9 (.int .i64 ((rows.filter (hitB c)).length : Nat)) (.int .i64 ((rows.filter (staysB c)).length : Nat)) y1 y2 h') Q) →
      Tl (F4_lrlrrrrrrr (eInv env (k + 2000)) (k + 2000) j rv (.pointer (some ⟨b5, 0, none⟩)) ov x9 (.int .i64 (((rows.take i).filter (hitB c)).length : Nat)) (.int .i64 (((rows.take i).filter (staysB c)).length : Nat)) (.int .i64 i) h ke0 kr) Q := by
  have hv : ∀ h', pLen Try.prog #[23] rv h' = some (.int .i64 rows.length) := fun h' => R.len
  have hv2 : ∀ h', pLen Try.prog #[23] ov h' = some (.int .i64 (oneR rows c).length) := fun h' => Ou.len
  induction n with
  | zero =>
    intro i j h hi hj g hk
    obtain ⟨j, rfl⟩ : ∃ q, j = q + 1 := ⟨j - 1, by omega⟩
    rw [List.take_of_length_le (by omega)]
    simp only [F4_lrlrrrrrrr]
    repeat (first | (with_reducible apply Tl.val; focus (simp (disch := omega) only [coreA, Int.reduceBEq, base_B3, hv] <;> with_reducible rfl)) | (with_reducible first | refine Tl.brT ?_ | refine Tl.brF ?_ | refine Tl.gd_on ?_ | refine Tl.gd3_on ?_) | ((with_reducible first | apply Tl.brC | apply Tl.gdC | apply Tl.gd3C); focus (simp (disch := omega) only [coreA, Int.reduceBEq, base_B3, hv] <;> with_reducible rfl)))
    exact hk _ _ _ g
  | succ n ih =>
    intro i j h hi hj g hk
    obtain ⟨j, rfl⟩ : ∃ q, j = q + 1 := ⟨j - 1, by omega⟩
    obtain ⟨row, er⟩ : ∃ x, rows[i]? = some x := ⟨_, List.getElem?_eq_getElem (by omega)⟩
    have hrow := hr row (List.mem_of_getElem? er)
    obtain ⟨ba, oa, wa, hpa, hca, A⟩ := (R.grow g).at_ er
    have e : (i : Int) + 1 = ((i + 1 : Nat) : Int) := by omega
    have hh := filter_snoc (p := hitB c) er
    have hs := filter_snoc (p := staysB c) er
    have hle1 : ((rows.take i).filter (hitB c)).length ≤ i := Nat.le_trans (List.length_filter_le ..) (by simp; omega)
    have hle2 : ((rows.take i).filter (staysB c)).length ≤ i := Nat.le_trans (List.length_filter_le ..) (by simp; omega)
    have c0 : ∀ h', Grow hB h' → h'.cell b5 0 = some (.int .i64 c.kind) := fun h' g => cell_of (g.get h5)
    have c2 : h.cell b5 2 = some pv := cell_of (g.get h5)
    have c0h := c0 h g
    have IH := fun (h' : AH) (g' : Grow hB h') => ih (i := i + 1) (j := j) (h := h') (by omega) (by omega) g' hk
    -- behind the question whether it is meant
    have rest : ∀ h1, Grow hB h1 → ∀ hit, hit = hitB c row → Tl (F4_rlrllrllrlrrrrrrr (eInv env (k + 2000)) (k + 2000) rv (.pointer (some ⟨b5, 0, none⟩)) ov x9 (.int .i64 (((rows.take i).filter (hitB c)).length : Nat)) (.int .i64 (((rows.take i).filter (staysB c)).length : Nat)) (.int .i64 i) (.bool hit) (.bool hit) h1
    (fun y1 y5 y8 y9 y10 y11 y12 y13_1 y68 h_2 =>
    bnd (gd (some y13_1) true h_2 (lt (pFieldAddr Try.prog 39 y5 0) h_2)) fun x73 =>
    bnd (gd (some y13_1) true x73.2 (lt (pLoad Try.prog 3 x73.1 x73.2) x73.2)) fun x74 =>
    bnd (gd (some y13_1) true x74.2 (lt (pBin Try.prog .eql 3 (.tmp 74) (.const (.int .i64 2)) x74.1 (.int .i64 2)) x74.2)) fun x75 =>
    bnd (pickV y13_1 x75.1 (.bool false)) fun x76 =>
    brV x76
    (bnd (pBin Try.prog .add 3 (.tmp 54) (.const (.int .i64 1)) y12 (.int .i64 1)) fun x55 =>
    F4_lrlrrrrrrr (eInv env (k + 2000)) (k + 2000) j y1 y5 y8 y9 y10 y11 x55 x75.2 ke0 kr)
    (G4_17 (eInv env (k + 2000)) y1 y5 y8 y9 y10 y11 y12 y13_1 x75.2 fun y93 h_3 =>
    brV y93
    (kr (.bool false) h_3)
    (F4_lrlrrrrllrllrlrrrrrrr (eInv env (k + 2000)) (k + 2000) (k + 2000) y1 y5 y8 y9 y10 y11 y12 y13_1 (.int .i64 0) h_3
    (fun y1_4 y5_5 y8_6 y9_7 y10_8 y11_9 y12_10 y13_11 y14 y100 h_12 =>
    bnd (pBin Try.prog .add 3 (.tmp 141) (.const (.int .i64 1)) y11_9 (.int .i64 1)) fun x142 =>
    bnd (pBin Try.prog .add 3 (.tmp 54) (.const (.int .i64 1)) y12_10 (.int .i64 1)) fun x55 =>
    F4_lrlrrrrrrr (eInv env (k + 2000)) (k + 2000) j y1_4 y5_5 y8_6 y9_7 y10_8 x142 x55 h_12 ke0 kr)
    (fun y6 h_13 =>
    kr y6 h_13))))) Q := by
      intro h1 g1 hit hhit
      have c01 := c0 h1 g1
      -- a row that stays
      have stay : staysB c row = true → ∀ z : Nat, z = ((rows.take (i + 1)).filter (hitB c)).length → Tl (G4_17 (eInv env (k + 2000)) rv (.pointer (some ⟨b5, 0, none⟩)) ov x9 (.int .i64 (z : Nat)) (.int .i64 (((rows.take i).filter (staysB c)).length : Nat)) (.int .i64 i) (.bool hit) h1 fun y93 h_3 =>
    brV y93
    (kr (.bool false) h_3)
    (F4_lrlrrrrllrllrlrrrrrrr (eInv env (k + 2000)) (k + 2000) (k + 2000) rv (.pointer (some ⟨b5, 0, none⟩)) ov x9 (.int .i64 (z : Nat)) (.int .i64 (((rows.take i).filter (staysB c)).length : Nat)) (.int .i64 i) (.bool hit) (.int .i64 0) h_3
    (fun y1_4 y5_5 y8_6 y9_7 y10_8 y11_9 y12_10 y13_11 y14 y100 h_12 =>
    bnd (pBin Try.prog .add 3 (.tmp 141) (.const (.int .i64 1)) y11_9 (.int .i64 1)) fun x142 =>
    bnd (pBin Try.prog .add 3 (.tmp 54) (.const (.int .i64 1)) y12_10 (.int .i64 1)) fun x55 =>
    F4_lrlrrrrrrr (eInv env (k + 2000)) (k + 2000) j y1_4 y5_5 y8_6 y9_7 y10_8 x142 x55 h_12 ke0 kr)
    (fun y6 h_13 =>
    kr y6 h_13))) Q := by
        intro hst z hz
        have hat : (oneR rows c)[((rows.take i).filter (staysB c)).length]? = some (outR c row) := by
          have h6 := filter_at (p := staysB c) er hst
          have h7 := (List.getElem?_eq_some_iff.1 h6).1
          rw [one_eq rows hb, List.getElem?_append_left (by rw [List.length_map]; exact h7), List.getElem?_map, h6]
          rfl
        have hlt := (List.getElem?_eq_some_iff.1 hat).1
        obtain ⟨bb, ob, wb, hpb, hcb, Bc⟩ := (Ou.grow g1).at_ hat
        obtain ⟨ba, oa, wa, hpa, hca, A⟩ := (R.grow g1).at_ er
        have hol : (outR c row).length = row.length := by unfold outR; split <;> simp [setL_len]
        have hla : ∀ h', pLen Try.prog #[37] wa h' = some (.int .i64 row.length) := fun h' => A.len
        have hlb : ∀ h', pLen Try.prog #[37] wb h' = some (.int .i64 row.length) := fun h' => by rw [Bc.len, hol]
        simp only [G4_17]
        repeat (first | (with_reducible apply Tl.val; focus (simp (disch := omega) only [coreA, Int.reduceBEq, base_B3, hv2, hpb, hcb, hlb, hpa, hca, hla] <;> with_reducible rfl)) | (with_reducible first | refine Tl.brT ?_ | refine Tl.brF ?_ | refine Tl.gd_on ?_ | refine Tl.gd3_on ?_) | ((with_reducible first | apply Tl.brC | apply Tl.gdC | apply Tl.gd3C); focus (simp (disch := omega) only [coreA, Int.reduceBEq, base_B3, hv2, hpb, hcb, hlb, hpa, hca, hla] <;> with_reducible rfl)))
        refine f4_k (hB := h1) (g1.get h5) (F.2.2.1.grow g1) (F.2.2.2.grow g1) hcl hct hpa hca A hpb hcb Bc hrow hol (by omega) (fun m w hw => ?_) row.length (m := 0) (by omega) (by omega) (Grow.refl _) fun h2 y1 y2 g2 => ?_
        · unfold outR
          rw [← hhit]
          cases hit
          · exact hw
          · exact setL_get m _ _ _ _ hw
        · have e3 : (((rows.take i).filter (staysB c)).length : Int) + 1 = (((rows.take (i + 1)).filter (staysB c)).length : Nat) := by rw [hs, hst]; simp
          repeat (first | (with_reducible apply Tl.val; focus (simp (disch := omega) only [coreA, Int.reduceBEq, base_B3] <;> with_reducible rfl)) | (with_reducible first | refine Tl.brT ?_ | refine Tl.brF ?_ | refine Tl.gd_on ?_ | refine Tl.gd3_on ?_) | ((with_reducible first | apply Tl.brC | apply Tl.gdC | apply Tl.gd3C); focus (simp (disch := omega) only [coreA, Int.reduceBEq, base_B3] <;> with_reducible rfl)))
          rw [e, e3, hz]
          exact IH _ (g1.trans g2)
      unfold F4_rlrllrllrlrrrrrrr
      cases hit with
      | true =>
        rw [← hhit] at hh
        have e2 : (((rows.take i).filter (hitB c)).length : Int) + 1 = (((rows.take (i + 1)).filter (hitB c)).length : Nat) := by rw [hh]; simp
        by_cases k2 : c.kind = 2
        · have hst : staysB c row = false := by unfold staysB; rw [← hhit, decide_eq_true k2]; rfl
          rw [hst] at hs
          have hs : ((rows.take (i + 1)).filter (staysB c)).length = ((rows.take i).filter (staysB c)).length := by rw [hs]; simp
          repeat (first | (with_reducible apply Tl.val; focus (simp (disch := omega) only [coreA, Int.reduceBEq, base_B3, c01] <;> with_reducible rfl)) | (with_reducible first | refine Tl.brT ?_ | refine Tl.brF ?_ | refine Tl.gd_on ?_ | refine Tl.gd3_on ?_) | ((with_reducible first | apply Tl.brC | apply Tl.gdC | apply Tl.gd3C); focus (simp (disch := omega) only [coreA, Int.reduceBEq, base_B3, c01] <;> with_reducible rfl)))
          rw [e, e2, ← hs]
          exact IH _ g1
        · have hst : staysB c row = true := by unfold staysB; rw [decide_eq_false k2, Bool.and_false]; rfl
          repeat (first | (with_reducible apply Tl.val; focus (simp (disch := omega) only [coreA, Int.reduceBEq, base_B3, c01] <;> with_reducible rfl)) | (with_reducible first | refine Tl.brT ?_ | refine Tl.brF ?_ | refine Tl.gd_on ?_ | refine Tl.gd3_on ?_) | ((with_reducible first | apply Tl.brC | apply Tl.gdC | apply Tl.gd3C); focus (simp (disch := omega) only [coreA, Int.reduceBEq, base_B3, c01] <;> with_reducible rfl)))
          rw [e2]
          exact stay hst _ rfl
      | false =>
        rw [← hhit] at hh
        have hst : staysB c row = true := by unfold staysB; rw [← hhit]; rfl
        have hh : ((rows.take i).filter (hitB c)).length = ((rows.take (i + 1)).filter (hitB c)).length := by rw [hh]; simp
        repeat (first | (with_reducible apply Tl.val; focus (simp (disch := omega) only [coreA, Int.reduceBEq, base_B3, c01] <;> with_reducible rfl)) | (with_reducible first | refine Tl.brT ?_ | refine Tl.brF ?_ | refine Tl.gd_on ?_ | refine Tl.gd3_on ?_) | ((with_reducible first | apply Tl.brC | apply Tl.gdC | apply Tl.gd3C); focus (simp (disch := omega) only [coreA, Int.reduceBEq, base_B3, c01] <;> with_reducible rfl)))
        rw [hh]
        exact stay hst _ rfl
    simp only [F4_lrlrrrrrrr, F4_lrllrlrrrrrrr, G4_13]
    by_cases k1 : c.kind = 1
    · have hhit : false = hitB c row := by simp [hitB, k1]
      repeat (first | (with_reducible apply Tl.val; focus (simp (disch := omega) only [coreA, Int.reduceBEq, base_B3, hv, c0h] <;> with_reducible rfl)) | (with_reducible first | refine Tl.brT ?_ | refine Tl.brF ?_ | refine Tl.gd_on ?_ | refine Tl.gd3_on ?_) | ((with_reducible first | apply Tl.brC | apply Tl.gdC | apply Tl.gd3C); focus (simp (disch := omega) only [coreA, Int.reduceBEq, base_B3, hv, c0h] <;> with_reducible rfl)))
      exact rest h g false hhit
    · repeat (first | (with_reducible apply Tl.val; focus (simp (disch := omega) only [coreA, Int.reduceBEq, base_B3, hv, c0h, c2, hpa, hca] <;> with_reducible rfl)) | (with_reducible first | refine Tl.brT ?_ | refine Tl.brF ?_ | refine Tl.gd_on ?_ | refine Tl.gd3_on ?_) | ((with_reducible first | apply Tl.brC | apply Tl.gdC | apply Tl.gd3C); focus (simp (disch := omega) only [coreA, Int.reduceBEq, base_B3, hv, c0h, c2, hpa, hca] <;> with_reducible rfl)))
      refine Tl.bind (f17c (k := k + 989) (F.2.1.grow g) A ok.pred ok.parts (by omega)) ?_
      rintro ⟨r, h1⟩ ⟨er', g1⟩
      simp only at er' g1
      subst er'
      have hhit : holdsB row c.pred = hitB c row := by simp [hitB, meant, k1]
      repeat (first | (with_reducible apply Tl.val; focus (simp (disch := omega) only [coreA, Int.reduceBEq, base_B3] <;> with_reducible rfl)) | (with_reducible first | refine Tl.brT ?_ | refine Tl.brF ?_ | refine Tl.gd_on ?_ | refine Tl.gd3_on ?_) | ((with_reducible first | apply Tl.brC | apply Tl.gdC | apply Tl.gd3C); focus (simp (disch := omega) only [coreA, Int.reduceBEq, base_B3] <;> with_reducible rfl)))
      exact rest h1 (g.trans g1) _ hhit
end
end Go.Proofs.Ytjmfokglckaneaa.Sh
