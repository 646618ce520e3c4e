/- 'PredPrunes' comes to true. -/
import Derived.Test.YtmhgihjmhmihpaaSzP5
import Derived.Test.YtmhgihjmhmihpaaSzVk
set_option linter.unusedVariables false
set_option linter.unusedSimpArgs false
set_option maxRecDepth 100000
namespace Go.Proofs.Ytmhgihjmhmihpaa.Sh
open Go Go.RowKit Go.Proofs.Ev
theorem base_P6 : type_of% (And.intro @ld3 (And.intro @ld4 (And.intro @ld22 (And.intro @ld23 (And.intro @ld31 (And.intro @ld42 (And.intro @ld58 (And.intro @Nat.add_zero ((fun ox oy a b => bin_eql_bool (ox := ox) (oy := oy) (a := a) (b := b) u4)))))))))) := And.intro @ld3 (And.intro @ld4 (And.intro @ld22 (And.intro @ld23 (And.intro @ld31 (And.intro @ld42 (And.intro @ld58 (And.intro @Nat.add_zero ((fun ox oy a b => bin_eql_bool (ox := ox) (oy := oy) (a := a) (b := b) u4)))))))))
def cellAt (c : Nat) (r : List CellD) : CellD := (r[c]?).getD cellZ
theorem zstep_nul (z : ZoneD) (v : CellD) : z.nul ≤ (zstep z v).nul ∧ (zstep z v).nul ≤ z.nul + 1 := by
  unfold zstep
  simp only
  repeat' split
  all_goals (first | omega | (simp only; omega))
theorem f18_rows {β : Type} {k : Nat} {Q : β → Prop} {h0 : AH} {O : List OS} {cv rv x5 : Value} {b7 c m : Nat} {rows : List (List CellD)} (R : Rows h0 rv rows) (hw : ∀ r ∈ rows, r.length = m) (hc : c < m) (hl : rows.length ≤ 2 ^ 30)
    {ke2 : Value → Value → Value → Value → Value → Value → Value → AH → Option β} (n : Nat) :
    ∀ {i j : Nat} {z : ZoneD} {h : AH}, i + n = rows.length → n < j → 0 ≤ z.nul → z.nul ≤ i → Stt Try.prog h0.n h0 h [(b7, .cells (zrow z) 58 true)] O →
      (∀ y8 y22 h', Stt Try.prog h0.n h0 h' [(b7, .cells (zrow (((rows.drop i).map (cellAt c)).foldl zstep z)) 58 true)] O → Tl (ke2 cv rv x5 (.int .i64 c) (.pointer (some ⟨b7, 0, none⟩)) y8 y22 h') Q) →
      Tl (F18_lrlrllrllrlrr (eInv env (k + 10)) (k + 10) j cv rv x5 (.int .i64 c) (.pointer (some ⟨b7, 0, none⟩)) (.int .i64 i) h ke2) Q := by
  have hv : ∀ h', pLen Try.prog #[31] rv h' = some (.int .i64 rows.length) := fun h' => R.len
  induction n with
  | zero =>
    intro i j z h hi hj hz1 hz2 S hk
    obtain ⟨j, rfl⟩ : ∃ q, j = q + 1 := ⟨j - 1, by omega⟩
    simp only [F18_lrlrllrllrlrr]
    repeat (first | (with_reducible apply Tl.val; focus (simp (disch := omega) only [coreA, Int.reduceBEq, base_P6, hv] <;> with_reducible rfl)) | (with_reducible first | refine Tl.brT ?_ | refine Tl.brF ?_ | refine Tl.gd_on ?_ | refine Tl.gd3_on ?_) | ((with_reducible first | apply Tl.brC | apply Tl.gdC | apply Tl.gd3C); focus (simp (disch := omega) only [coreA, Int.reduceBEq, base_P6, hv] <;> with_reducible rfl)))
    rw [List.drop_eq_nil_of_le (by omega)] at hk
    exact hk _ _ _ S
  | succ n ih =>
    intro i j z h hi hj hz1 hz2 S hk
    obtain ⟨j, rfl⟩ : ∃ q, j = q + 1 := ⟨j - 1, by omega⟩
    obtain ⟨row, er⟩ : ∃ x, rows[i]? = some x := ⟨_, List.getElem?_eq_getElem (by omega)⟩
    have hrl := hw row (List.mem_of_getElem? er)
    obtain ⟨v, ev⟩ : ∃ x, row[c]? = some x := ⟨_, List.getElem?_eq_getElem (by omega)⟩
    have e : (i : Int) + 1 = ((i + 1 : Nat) : Int) := by omega
    have ec : cellAt c row = v := by unfold cellAt; rw [ev]; rfl
    rw [drop_at er, List.map_cons, List.foldl_cons, ec] at hk
    have hz := zstep_nul z v
    simp only [F18_lrlrllrllrlrr]
    repeat (first | (with_reducible apply Tl.val; focus (simp (disch := omega) only [coreA, Int.reduceBEq, base_P6, hv] <;> with_reducible rfl)) | (with_reducible first | refine Tl.brT ?_ | refine Tl.brF ?_ | refine Tl.gd_on ?_ | refine Tl.gd3_on ?_) | ((with_reducible first | apply Tl.brC | apply Tl.gdC | apply Tl.gd3C); focus (simp (disch := omega) only [coreA, Int.reduceBEq, base_P6, hv] <;> with_reducible rfl)))
    refine f18_row (k := k) R er ev ⟨hz1, by omega⟩ S fun y9 y62 h1 S1 => ?_
    repeat (first | (with_reducible apply Tl.val; focus (simp (disch := omega) only [coreA, Int.reduceBEq, base_P6] <;> with_reducible rfl)) | (with_reducible first | refine Tl.brT ?_ | refine Tl.brF ?_ | refine Tl.gd_on ?_ | refine Tl.gd3_on ?_) | ((with_reducible first | apply Tl.brC | apply Tl.gdC | apply Tl.gd3C); focus (simp (disch := omega) only [coreA, Int.reduceBEq, base_P6] <;> with_reducible rfl)))
    rw [e]
    exact ih (by omega) (by omega) (by omega) (by omega) S1 hk
theorem zonesL_succ (c : Nat) (rows : List (List CellD)) : zonesL (c + 1) rows = zonesL c rows ++ [colZ rows.length (rows.map (cellAt c))] := by
  unfold zonesL
  rw [List.range_succ, List.map_append]
  rfl
theorem f18_cols {β : Type} {k : Nat} {Q : β → Prop} {h0 : AH} {cv rv : Value} {cols : List ColD} {rows : List (List CellD)} (C : Cols h0 cv cols) (R : Rows h0 rv rows) (hw : ∀ r ∈ rows, r.length = cols.length) (hcl : cols.length ≤ 100) (hl : rows.length ≤ 1000)
    {ke0 : Value → Value → Value → Value → Value → AH → Option β} (n : Nat) :
    ∀ {i j : Nat} {outv : Value} {h : AH}, i + n = cols.length → n < j → Stt Try.prog h0.n h0 h [] [(outv, 8, (zonesL i rows).map zrow)] →
      (∀ y1 y2 y3 y4 outv' h', Stt Try.prog h0.n h0 h' [] [(outv', 8, (zonesL cols.length rows).map zrow)] → Tl (ke0 y1 y2 outv' y3 y4 h') Q) →
      Tl (F18_lrlrr (eInv env (k + 1010)) (k + 1010) j cv rv outv (.int .i64 i) h ke0) Q := by
  have hv : ∀ h', pLen Try.prog #[30] cv h' = some (.int .i64 cols.length) := fun h' => C.len
  have hv2 : ∀ h', pLen Try.prog #[31] rv h' = some (.int .i64 rows.length) := fun h' => R.len
  induction n with
  | zero =>
    intro i j outv h hi hj S hk
    obtain ⟨j, rfl⟩ : ∃ q, j = q + 1 := ⟨j - 1, by omega⟩
    have : i = cols.length := by omega
    subst this
    simp only [F18_lrlrr]
    repeat (first | (with_reducible apply Tl.val; focus (simp (disch := omega) only [coreA, Int.reduceBEq, base_P6, hv] <;> with_reducible rfl)) | (with_reducible first | refine Tl.brT ?_ | refine Tl.brF ?_ | refine Tl.gd_on ?_ | refine Tl.gd3_on ?_) | ((with_reducible first | apply Tl.brC | apply Tl.gdC | apply Tl.gd3C); focus (simp (disch := omega) only [coreA, Int.reduceBEq, base_P6, hv] <;> with_reducible rfl)))
    exact hk _ _ _ _ _ _ S
  | succ n ih =>
    intro i j outv h hi hj S hk
    obtain ⟨j, rfl⟩ : ∃ q, j = q + 1 := ⟨j - 1, by omega⟩
    have e : (i : Int) + 1 = ((i + 1 : Nat) : Int) := by omega
    simp only [F18_lrlrr]
    repeat (first | (with_reducible apply Tl.val; focus (simp (disch := omega) only [coreA, Int.reduceBEq, base_P6, hv, hv2, bd58] <;> with_reducible rfl)) | (with_reducible first | refine Tl.brT ?_ | refine Tl.brF ?_ | refine Tl.gd_on ?_ | refine Tl.gd3_on ?_) | ((with_reducible first | apply Tl.brC | apply Tl.gdC | apply Tl.gd3C); focus (simp (disch := omega) only [coreA, Int.reduceBEq, base_P6, hv, hv2, bd58] <;> with_reducible rfl)))
    refine Tl.alloc' S ze58 (by rfl) fun b7 h1 S1 g1 => ?_
    refine Tl.store' S1 0 rfl sz58 rfl rfl (by simp [Value.cells]) fun h2 S2 k2 => ?_
    have S2 : Stt Try.prog h0.n h0 h2 [(b7, .cells (zrow ⟨rows.length, 0, cellZ, cellZ⟩) 58 true)] [(outv, 8, (zonesL i rows).map zrow)] := S2
    repeat (first | (with_reducible apply Tl.val; focus (simp (disch := omega) only [coreA, Int.reduceBEq, base_P6] <;> with_reducible rfl)) | (with_reducible first | refine Tl.brT ?_ | refine Tl.brF ?_ | refine Tl.gd_on ?_ | refine Tl.gd3_on ?_) | ((with_reducible first | apply Tl.brC | apply Tl.gdC | apply Tl.gd3C); focus (simp (disch := omega) only [coreA, Int.reduceBEq, base_P6] <;> with_reducible rfl)))
    refine f18_rows (k := k + 1000) R hw (by omega) (by omega) rows.length (i := 0) (by omega) (by omega) (by show (0 : Int) ≤ 0; omega) (by show (0 : Int) ≤ (0 : Nat); omega) S2 fun y8 y22 h3 S3 => ?_
    rw [List.drop_zero] at S3
    have S3 : Stt Try.prog h0.n h0 h3 [(b7, .cells (zrow (colZ rows.length (rows.map (cellAt i)))) 58 true)] [(outv, 8, (zonesL i rows).map zrow)] := S3
    have r8 : h3.row b7 0 8 = some (zrow (colZ rows.length (rows.map (cellAt i)))) := S3.row 0 rfl rfl
    repeat (first | (with_reducible apply Tl.val; focus (simp (disch := omega) only [coreA, Int.reduceBEq, base_P6, r8] <;> with_reducible rfl)) | (with_reducible first | refine Tl.brT ?_ | refine Tl.brF ?_ | refine Tl.gd_on ?_ | refine Tl.gd3_on ?_) | ((with_reducible first | apply Tl.brC | apply Tl.gdC | apply Tl.gd3C); focus (simp (disch := omega) only [coreA, Int.reduceBEq, base_P6, r8] <;> with_reducible rfl)))
    refine Tl.push S3 0 rfl app38 (bs38 _ _) rfl rfl (by simp [zonesL]; omega) fun v' h4 S4 => ?_
    repeat (first | (with_reducible apply Tl.val; focus (simp (disch := omega) only [coreA, Int.reduceBEq, base_P6] <;> with_reducible rfl)) | (with_reducible first | refine Tl.brT ?_ | refine Tl.brF ?_ | refine Tl.gd_on ?_ | refine Tl.gd3_on ?_) | ((with_reducible first | apply Tl.brC | apply Tl.gdC | apply Tl.gd3C); focus (simp (disch := omega) only [coreA, Int.reduceBEq, base_P6] <;> with_reducible rfl)))
    rw [e]
    refine ih (by omega) (by omega) ?_ hk
    rw [zonesL_succ, List.map_append]
    exact S4.drop
theorem f18c {k : Nat} {h : AH} {cv rv : Value} {cols : List ColD} {rows : List (List CellD)} (C : Cols h cv cols) (R : Rows h rv rows) (hw : ∀ r ∈ rows, r.length = cols.length) (hcl : cols.length ≤ 100) (hl : rows.length ≤ 1000) :
    Tl (eInv env (k + 1011) (.func 18) #[] #[cv, rv] h) fun r => Zones r.2 r.1 (zonesL cols.length rows) ∧ Grow h r.2 := by
  rw [F18_call]
  unfold F18
  refine f18_cols (k := k) C R hw hcl hl cols.length (i := 0) (by omega) (by omega) (Stt.nil (Stt.init h) 8) fun y1 y2 y3 y4 outv' h' S' => ?_
  exact ⟨_, rfl, (S'.slV 0 rfl).z, S'.grow⟩
/-! ### The law -/
theorem fitsL_len : ∀ {cols : List ColD} {row : List CellD}, fitsL cols row = true → row.length = cols.length
  | [], [], _ => rfl
  | c :: cs, v :: vs, h => by
    unfold fitsL at h
    rw [Bool.and_eq_true] at h
    simp [fitsL_len h.2]
theorem rowOk_len {cols : List ColD} {row : List CellD} (h : rowOk cols row = true) : row.length = cols.length := by
  unfold rowOk at h
  simp only [Bool.and_eq_true, decide_eq_true_iff] at h
  exact h.2.1
theorem f4_fit {β : Type} {k : Nat} {Q : β → Prop} {h0 : AH} {cv pv rv av : Value} {cols : List ColD} {rows : List (List CellD)} (C : Cols h0 cv cols) (hcl : cols.length ≤ 9223372036854775807) (R : Rows h0 av rows) (hl : rows.length ≤ 2 ^ 30) (hls : ∀ r ∈ rows, r.length ≤ 9223372036854775807)
    {ke0 : Value → Value → Value → Value → Value → Value → AH → Option β} {kr : Value → AH → Option β} (n : Nat) :
    ∀ {i j : Nat} {h : AH}, i + n = rows.length → n < j → Grow h0 h → ((∀ r ∈ rows.drop i, rowOk cols r = true) → ∀ y1 y2 h', Grow h0 h' → Tl (ke0 cv pv rv av y1 y2 h') Q) → (∀ h', Tl (kr (.bool true) h') Q) →
      Tl (F4_lrlrrrr (eInv env (k + 300)) (k + 300) j cv pv rv av (.int .i64 i) h ke0 kr) Q := by
  have hv : ∀ h', pLen Try.prog #[31] av h' = some (.int .i64 rows.length) := fun h' => R.len
  induction n with
  | zero =>
    intro i j h hi hj g hk hr
    obtain ⟨j, rfl⟩ : ∃ q, j = q + 1 := ⟨j - 1, by omega⟩
    simp only [F4_lrlrrrr]
    repeat (first | (with_reducible apply Tl.val; focus (simp (disch := omega) only [coreA, Int.reduceBEq, base_P6, hv] <;> with_reducible rfl)) | (with_reducible first | refine Tl.brT ?_ | refine Tl.brF ?_ | refine Tl.gd_on ?_ | refine Tl.gd3_on ?_) | ((with_reducible first | apply Tl.brC | apply Tl.gdC | apply Tl.gd3C); focus (simp (disch := omega) only [coreA, Int.reduceBEq, base_P6, hv] <;> with_reducible rfl)))
    exact hk (fun r hr' => by rw [List.drop_eq_nil_of_le (by omega)] at hr'; cases hr') _ _ _ g
  | succ n ih =>
    intro i j h hi hj g hk hr
    obtain ⟨j, rfl⟩ : ∃ q, j = q + 1 := ⟨j - 1, by omega⟩
    obtain ⟨x, ex⟩ : ∃ x, rows[i]? = some x := ⟨_, List.getElem?_eq_getElem (by omega)⟩
    obtain ⟨b, o, w, hp, hc, X⟩ := R.at_ ex
    have hc1 := g.cell hc
    have e : (i : Int) + 1 = ((i + 1 : Nat) : Int) := by omega
    simp only [F4_lrlrrrr]
    repeat (first | (with_reducible apply Tl.val; focus (simp (disch := omega) only [coreA, Int.reduceBEq, base_P6, hv, hp, hc1] <;> with_reducible rfl)) | (with_reducible first | refine Tl.brT ?_ | refine Tl.brF ?_ | refine Tl.gd_on ?_ | refine Tl.gd3_on ?_) | ((with_reducible first | apply Tl.brC | apply Tl.gdC | apply Tl.gd3C); focus (simp (disch := omega) only [coreA, Int.reduceBEq, base_P6, hv, hp, hc1] <;> with_reducible rfl)))
    refine Tl.bind (f16c (k := k) (C.grow g) (X.grow g) hcl (hls x (List.mem_of_getElem? ex))) ?_
    rintro ⟨r, h1⟩ ⟨⟨er, err, he⟩, g1⟩
    simp only at err g1
    subst err
    by_cases q : er = 0
    · repeat (first | (with_reducible apply Tl.val; focus (simp (disch := omega) only [coreA, Int.reduceBEq, base_P6] <;> with_reducible rfl)) | (with_reducible first | refine Tl.brT ?_ | refine Tl.brF ?_ | refine Tl.gd_on ?_ | refine Tl.gd3_on ?_) | ((with_reducible first | apply Tl.brC | apply Tl.gdC | apply Tl.gd3C); focus (simp (disch := omega) only [coreA, Int.reduceBEq, base_P6] <;> with_reducible rfl)))
      rw [e]
      refine ih (by omega) (by omega) (g.trans g1) (fun hall => hk fun r hr' => ?_) hr
      rw [drop_at ex] at hr'
      rcases List.mem_cons.1 hr' with rfl | hr'
      · exact he.1 q
      · exact hall r hr'
    · repeat (first | (with_reducible apply Tl.val; focus (simp (disch := omega) only [coreA, Int.reduceBEq, base_P6] <;> with_reducible rfl)) | (with_reducible first | refine Tl.brT ?_ | refine Tl.brF ?_ | refine Tl.gd_on ?_ | refine Tl.gd3_on ?_) | ((with_reducible first | apply Tl.brC | apply Tl.gdC | apply Tl.gd3C); focus (simp (disch := omega) only [coreA, Int.reduceBEq, base_P6] <;> with_reducible rfl)))
      exact hr _
theorem f4_loop {β : Type} {k : Nat} {Q : β → Prop} {h0 : AH} {pv rv : Value} {l : List NodeD} {rows : List (List CellD)} {own wide : Int} (PL : Preds h0 pv l) (hpl : l.length ≤ 64) (hps : ∀ nd ∈ l, nd.parts.length ≤ 900) (R : Rows h0 rv rows) (hl : rows.length ≤ 2 ^ 30) (hls : ∀ r ∈ rows, r.length ≤ 2 ^ 40)
    (hso : ∀ r ∈ rows, Sound own (holdsB r l)) (hsw : ∀ r ∈ rows, Sound wide (holdsB r l))
    {ke2 : Value → Value → Value → Value → Value → Value → AH → Option β} {kr : Value → AH → Option β} (n : Nat) :
    ∀ {i j : Nat} {h : AH}, i + n = rows.length → n < j → Grow h0 h → (∀ y1 y2 h', Tl (ke2 pv rv (.int .i64 wide) (.int .i64 own) y1 y2 h') Q) →
      Tl (F4_lrlrrrrrr (eInv env (k + 1200)) (k + 1200) j pv rv (.int .i64 wide) (.int .i64 own) (.int .i64 i) h ke2 kr) Q := by
  have hv : ∀ h', pLen Try.prog #[31] rv h' = some (.int .i64 rows.length) := fun h' => R.len
  induction n with
  | zero =>
    intro i j h hi hj g hk
    obtain ⟨j, rfl⟩ : ∃ q, j = q + 1 := ⟨j - 1, by omega⟩
    simp only [F4_lrlrrrrrr]
    repeat (first | (with_reducible apply Tl.val; focus (simp (disch := omega) only [coreA, Int.reduceBEq, base_P6, hv] <;> with_reducible rfl)) | (with_reducible first | refine Tl.brT ?_ | refine Tl.brF ?_ | refine Tl.gd_on ?_ | refine Tl.gd3_on ?_) | ((with_reducible first | apply Tl.brC | apply Tl.gdC | apply Tl.gd3C); focus (simp (disch := omega) only [coreA, Int.reduceBEq, base_P6, hv] <;> with_reducible rfl)))
    exact hk _ _ _
  | succ n ih =>
    intro i j h hi hj g hk
    obtain ⟨j, rfl⟩ : ∃ q, j = q + 1 := ⟨j - 1, by omega⟩
    obtain ⟨x, ex⟩ : ∃ x, rows[i]? = some x := ⟨_, List.getElem?_eq_getElem (by omega)⟩
    obtain ⟨b, o, w, hp, hc, X⟩ := R.at_ ex
    have hc1 := g.cell hc
    have hm := List.mem_of_getElem? ex
    obtain ⟨o1, o3, _⟩ := hso x hm
    obtain ⟨w1, w3, _⟩ := hsw x hm
    have e : (i : Int) + 1 = ((i + 1 : Nat) : Int) := by omega
    simp only [F4_lrlrrrrrr]
    repeat (first | (with_reducible apply Tl.val; focus (simp (disch := omega) only [coreA, Int.reduceBEq, base_P6, hv, hp, hc1] <;> with_reducible rfl)) | (with_reducible first | refine Tl.brT ?_ | refine Tl.brF ?_ | refine Tl.gd_on ?_ | refine Tl.gd3_on ?_) | ((with_reducible first | apply Tl.brC | apply Tl.gdC | apply Tl.gd3C); focus (simp (disch := omega) only [coreA, Int.reduceBEq, base_P6, hv, hp, hc1] <;> with_reducible rfl)))
    refine Tl.bind (f11c (k := k) (PL.grow g) (X.grow g) (by omega) hps (by have := hls x hm; omega)) ?_
    rintro ⟨r, h1⟩ ⟨er, g1⟩
    simp only at er g1
    subst er
    cases q : holdsB x l with
    | true =>
      rw [q] at o1 o3 w1 w3
      have a1 : ¬ own = 1 := fun h => by have := o1 h; cases this
      have a2 : ¬ wide = 1 := fun h => by have := w1 h; cases this
      repeat (first | (with_reducible apply Tl.val; focus (simp (disch := omega) only [coreA, Int.reduceBEq, base_P6] <;> with_reducible rfl)) | (with_reducible first | refine Tl.brT ?_ | refine Tl.brF ?_ | refine Tl.gd_on ?_ | refine Tl.gd3_on ?_) | ((with_reducible first | apply Tl.brC | apply Tl.gdC | apply Tl.gd3C); focus (simp (disch := omega) only [coreA, Int.reduceBEq, base_P6] <;> with_reducible rfl)))
      rw [e]
      exact ih (by omega) (by omega) (g.trans g1) hk
    | false =>
      rw [q] at o1 o3 w1 w3
      have a1 : ¬ own = 3 := fun h => by have := o3 h; cases this
      have a2 : ¬ wide = 3 := fun h => by have := w3 h; cases this
      repeat (first | (with_reducible apply Tl.val; focus (simp (disch := omega) only [coreA, Int.reduceBEq, base_P6] <;> with_reducible rfl)) | (with_reducible first | refine Tl.brT ?_ | refine Tl.brF ?_ | refine Tl.gd_on ?_ | refine Tl.gd3_on ?_) | ((with_reducible first | apply Tl.brC | apply Tl.gdC | apply Tl.gd3C); focus (simp (disch := omega) only [coreA, Int.reduceBEq, base_P6] <;> with_reducible rfl)))
      rw [e]
      exact ih (by omega) (by omega) (g.trans g1) hk
theorem bs31E (h : AH) : pBuildSlice Try.prog 31 0 #[] h = some (.slice (some ⟨h.n, 0, none⟩) 0 0, h.alloc (.cells [] 23 true)) := by kernel_rfl
theorem one_rows {h : AH} {vs : List Value} {l : List (List CellD)} (A : All2 (Cells h) vs l) : ((vs.map fun v => [v]).flatten.all oneCell) = true := by
  induction vs generalizing l with
  | nil => rfl
  | cons v vs ih =>
    cases l with
    | nil => exact A.elim
    | cons r l =>
      have h1 : oneCell v = true := SlZ.one A.1
      simp only [List.map_cons, List.flatten_cons, List.all_append, ih A.2]
      simp [h1]
theorem All2.app {α γ : Type} {R : α → γ → Prop} : ∀ {l l' : List α} {m m' : List γ}, All2 R l m → All2 R l' m' → All2 R (l ++ l') (m ++ m')
  | [], _, [], _, _, h => h
  | a :: l, _, b :: m, _, h1, h2 => ⟨h1.1, All2.app h1.2 h2⟩
theorem f4 {k : Nat} {h : AH} {cv pv rv mv : Value} {cols : List ColD} {l : List NodeD} {rows more : List (List CellD)} (C : Cols h cv cols) (PL : Preds h pv l) (R : Rows h rv rows) (M : Rows h mv more)
    (hcl : cols.length ≤ 9223372036854775807) (hpl : l.length ≤ 9223372036854775807) (hrl : rows.length ≤ 9223372036854775807) (hml : more.length ≤ 9223372036854775807) (hrs : ∀ r ∈ rows, r.length ≤ 9223372036854775807 ∧ r.length < k) (hms : ∀ r ∈ more, r.length ≤ 9223372036854775807 ∧ r.length < k)
    (hcell : ∀ nd ∈ l, cellR nd.val) (kc : cols.length < k) (kp : l.length < k) (kr : rows.length < k) (km : more.length < k) :
    Tl (F4 (eInv env (k + 3000)) (k + 3000) cv pv rv mv h) fun r => r.1 = .bool true := by
  unfold F4
  have hlv := lives_call (k := k + 2999) (h := h)
  have p1 := f13c (k := k + 2999) C hcl (by omega)
  have p2 := f8c (k := k + 2999) PL hpl (by omega)
  have p3 := f14c (k := k + 2998) 40 R hrl (fun r hr => ⟨(hrs r hr).1, by have := (hrs r hr).2; omega⟩) (by omega)
  have p4 := f14c (k := k + 2998) 40 M hml (fun r hr => ⟨(hms r hr).1, by have := (hms r hr).2; omega⟩) (by omega)
  have done : ∀ h' : AH, Tl (some (Value.bool true, h')) fun r => r.1 = Value.bool true := fun h' => ⟨_, rfl, rfl⟩
  cases q1 : lightC cols with
  | false =>
    rw [q1] at p1
    repeat (first | (with_reducible apply Tl.val; focus (simp (disch := omega) only [coreA, Int.reduceBEq, base_P6, hlv, p1] <;> with_reducible rfl)) | (with_reducible first | refine Tl.brT ?_ | refine Tl.brF ?_ | refine Tl.gd_on ?_ | refine Tl.gd3_on ?_) | ((with_reducible first | apply Tl.brC | apply Tl.gdC | apply Tl.gd3C); focus (simp (disch := omega) only [coreA, Int.reduceBEq, base_P6, hlv, p1] <;> with_reducible rfl)))
    exact done _
  | true =>
  rw [q1] at p1
  cases q2 : lightP l with
  | false =>
    rw [q2] at p2
    repeat (first | (with_reducible apply Tl.val; focus (simp (disch := omega) only [coreA, Int.reduceBEq, base_P6, hlv, p1, p2] <;> with_reducible rfl)) | (with_reducible first | refine Tl.brT ?_ | refine Tl.brF ?_ | refine Tl.gd_on ?_ | refine Tl.gd3_on ?_) | ((with_reducible first | apply Tl.brC | apply Tl.gdC | apply Tl.gd3C); focus (simp (disch := omega) only [coreA, Int.reduceBEq, base_P6, hlv, p1, p2] <;> with_reducible rfl)))
    exact done _
  | true =>
  rw [q2] at p2
  cases q3 : lightRs rows 40 with
  | false =>
    rw [q3] at p3
    repeat (first | (with_reducible apply Tl.val; focus (simp (disch := omega) only [coreA, Int.reduceBEq, base_P6, hlv, p1, p2, p3] <;> with_reducible rfl)) | (with_reducible first | refine Tl.brT ?_ | refine Tl.brF ?_ | refine Tl.gd_on ?_ | refine Tl.gd3_on ?_) | ((with_reducible first | apply Tl.brC | apply Tl.gdC | apply Tl.gd3C); focus (simp (disch := omega) only [coreA, Int.reduceBEq, base_P6, hlv, p1, p2, p3] <;> with_reducible rfl)))
    exact done _
  | true =>
  rw [q3] at p3
  cases q4 : lightRs more 40 with
  | false =>
    rw [q4] at p4
    repeat (first | (with_reducible apply Tl.val; focus (simp (disch := omega) only [coreA, Int.reduceBEq, base_P6, hlv, p1, p2, p3, p4] <;> with_reducible rfl)) | (with_reducible first | refine Tl.brT ?_ | refine Tl.brF ?_ | refine Tl.gd_on ?_ | refine Tl.gd3_on ?_) | ((with_reducible first | apply Tl.brC | apply Tl.gdC | apply Tl.gd3C); focus (simp (disch := omega) only [coreA, Int.reduceBEq, base_P6, hlv, p1, p2, p3, p4] <;> with_reducible rfl)))
    exact done _
  | true =>
  rw [q4] at p4
  unfold lightRs at q3 q4
  unfold lightP at q2
  unfold lightC at q1
  rw [Bool.and_eq_true, decide_eq_true_iff] at q1 q2 q3 q4
  have hps : ∀ nd ∈ l, nd.parts.length ≤ 900 := fun nd hnd => by
    have := List.all_eq_true.1 q2.1 nd hnd
    simp [lightN] at this
    omega
  have q22 := q2.2
  have q32 := q3.2
  have q42 := q4.2
  have q12 := q1.2
  repeat (first | (with_reducible apply Tl.val; focus (simp (disch := omega) only [coreA, Int.reduceBEq, base_P6, hlv, p1, p2, p3, p4] <;> with_reducible rfl)) | (with_reducible first | refine Tl.brT ?_ | refine Tl.brF ?_ | refine Tl.gd_on ?_ | refine Tl.gd3_on ?_) | ((with_reducible first | apply Tl.brC | apply Tl.gdC | apply Tl.gd3C); focus (simp (disch := omega) only [coreA, Int.reduceBEq, base_P6, hlv, p1, p2, p3, p4] <;> with_reducible rfl)))
  refine Tl.bind (f15c (k := k + 1700) C hcl PL hpl fun nd hnd => ⟨hps nd hnd, hcell nd hnd⟩) ?_
  rintro ⟨r, h1⟩ ⟨⟨e, er, he⟩, g1⟩
  simp only at er g1
  subst er
  by_cases qe : e = 0
  · have hp64 : l.length ≤ 64 := by omega
    -- all rows
    have X : OwnB Try.prog h1.n (h1.alloc (.cells [] 23 true)) (.slice (some ⟨h1.n, 0, none⟩) 0 0) 1 [] :=
      .inr ⟨h1.n, Nat.le_refl _, ⟨rfl, ⟨⟨[], 23, AH.get_alloc_new _ _, fun hq => absurd rfl hq⟩, fun r hr => by cases hr⟩, szOk_of (AH.get_alloc_new _ _) sz23⟩⟩
    have S0 := ((Stt.init h : Stt Try.prog h.n h h [] []).call g1).gain (Grow.alloc h1 _) X
    have hbs := bs31E h1
    generalize h1.alloc (.cells [] 23 true) = h2 at S0 hbs
    obtain ⟨vs, XR, AR⟩ := R
    obtain ⟨ws, XM, AM⟩ := M
    have ll := AR.len
    have ll2 := AM.len
    obtain ⟨a1, h3, e3, S3⟩ := S0.appendZ 0 rfl app31 (XR.grow S0.grow) (by simp; omega) (one_rows AR)
    have S3 : Stt Try.prog h.n h h3 [] [(a1, 1, [] ++ vs.map fun v => [v])] := S3
    obtain ⟨a2, h4, e4, S4⟩ := S3.appendZ 0 rfl app31 (XM.grow S3.grow) (by simp; omega) (one_rows AM)
    have S4 : Stt Try.prog h.n h h4 [] [(a2, 1, ([] ++ vs.map fun v => [v]) ++ ws.map fun v => [v])] := S4
    have RA : Rows h4 a2 (rows ++ more) := ⟨vs ++ ws, by rw [List.map_append]; exact (S4.slV 0 rfl).z, ((AR.mono fun _ _ h => h.grow S4.grow).app (AM.mono fun _ _ h => h.grow S4.grow))⟩
    have g04 := S4.grow
    have R4 : Rows h4 rv rows := Rows.grow ⟨vs, XR, AR⟩ g04
    repeat (first | (with_reducible apply Tl.val; focus (simp (disch := omega) only [coreA, Int.reduceBEq, base_P6, hbs, e3, e4] <;> with_reducible rfl)) | (with_reducible first | refine Tl.brT ?_ | refine Tl.brF ?_ | refine Tl.gd_on ?_ | refine Tl.gd3_on ?_) | ((with_reducible first | apply Tl.brC | apply Tl.gdC | apply Tl.gd3C); focus (simp (disch := omega) only [coreA, Int.reduceBEq, base_P6, hbs, e3, e4] <;> with_reducible rfl)))
    refine f4_fit (k := k + 2700) (C.grow g04) hcl RA (by simp; omega) (fun r hr => by
      rcases List.mem_append.1 hr with hr | hr
      · exact (hrs r hr).1
      · exact (hms r hr).1) (rows ++ more).length (i := 0) (by omega) (by simp; omega) (Grow.refl _) (fun hall y1 y2 h5 g5 => ?_) fun h' => done h'
    rw [List.drop_zero] at hall
    have hw : ∀ r ∈ rows ++ more, r.length = cols.length := fun r hr => rowOk_len (hall r hr)
    have hw1 : ∀ r ∈ rows, r.length = cols.length := fun r hr => hw r (List.mem_append.2 (.inl hr))
    have g05 := g04.trans g5
    have zl : ∀ rs : List (List CellD), (zonesL cols.length rs).length = cols.length := fun rs => by simp [zonesL]
    refine Tl.bind (f18c (k := k + 1989) (C.grow g05) (RA.grow g5) hw (by omega) (by simp; omega)) ?_
    rintro ⟨zv, h6⟩ ⟨Z6, g6⟩
    simp only at Z6 g6
    have g06 := g05.trans g6
    repeat (first | (with_reducible apply Tl.val; focus (simp (disch := omega) only [coreA, Int.reduceBEq, base_P6] <;> with_reducible rfl)) | (with_reducible first | refine Tl.brT ?_ | refine Tl.brF ?_ | refine Tl.gd_on ?_ | refine Tl.gd3_on ?_) | ((with_reducible first | apply Tl.brC | apply Tl.gdC | apply Tl.gd3C); focus (simp (disch := omega) only [coreA, Int.reduceBEq, base_P6] <;> with_reducible rfl)))
    refine Tl.bind (f17c (k := k + 1800) (PL.grow g06) Z6 (by omega) hps (by rw [zl]; omega)) ?_
    rintro ⟨w, h7⟩ ⟨ew, g7⟩
    simp only at ew g7
    subst ew
    have g07 := g06.trans g7
    have g47 := (g5.trans g6).trans g7
    repeat (first | (with_reducible apply Tl.val; focus (simp (disch := omega) only [coreA, Int.reduceBEq, base_P6] <;> with_reducible rfl)) | (with_reducible first | refine Tl.brT ?_ | refine Tl.brF ?_ | refine Tl.gd_on ?_ | refine Tl.gd3_on ?_) | ((with_reducible first | apply Tl.brC | apply Tl.gdC | apply Tl.gd3C); focus (simp (disch := omega) only [coreA, Int.reduceBEq, base_P6] <;> with_reducible rfl)))
    refine Tl.bind (f18c (k := k + 1989) (C.grow g07) (R4.grow g47) hw1 (by omega) (by omega)) ?_
    rintro ⟨zv2, h8⟩ ⟨Z8, g8⟩
    simp only at Z8 g8
    have g08 := g07.trans g8
    repeat (first | (with_reducible apply Tl.val; focus (simp (disch := omega) only [coreA, Int.reduceBEq, base_P6] <;> with_reducible rfl)) | (with_reducible first | refine Tl.brT ?_ | refine Tl.brF ?_ | refine Tl.gd_on ?_ | refine Tl.gd3_on ?_) | ((with_reducible first | apply Tl.brC | apply Tl.gdC | apply Tl.gd3C); focus (simp (disch := omega) only [coreA, Int.reduceBEq, base_P6] <;> with_reducible rfl)))
    refine Tl.bind (f17c (k := k + 1800) (PL.grow g08) Z8 (by omega) hps (by rw [zl]; omega)) ?_
    rintro ⟨w2, h9⟩ ⟨ew, g9⟩
    simp only at ew g9
    subst ew
    have g09 := g08.trans g9
    have g49 := (g47.trans g8).trans g9
    have so : ∀ r ∈ rows, Sound (zoneL (zonesL cols.length rows) l) (holdsB r l) := fun r hr => zone_sound hr (hw1 r hr) l
    have sw : ∀ r ∈ rows, Sound (zoneL (zonesL cols.length (rows ++ more)) l) (holdsB r l) := fun r hr => zone_sound (List.mem_append.2 (.inl hr)) (hw1 r hr) l
    have ro := zone_range (n := cols.length) (rows := rows) l
    have rw' := zone_range (n := cols.length) (rows := rows ++ more) l
    have le := fun hne : rows ≠ [] => zone_less (n := cols.length) (more := more) hne l
    generalize zoneL (zonesL cols.length rows) l = own at *
    generalize zoneL (zonesL cols.length (rows ++ more)) l = wide at *
    repeat (first | (with_reducible apply Tl.val; focus (simp (disch := omega) only [coreA, Int.reduceBEq, base_P6] <;> with_reducible rfl)) | (with_reducible first | refine Tl.brT ?_ | refine Tl.brF ?_ | refine Tl.gd_on ?_ | refine Tl.gd3_on ?_) | ((with_reducible first | apply Tl.brC | apply Tl.gdC | apply Tl.gd3C); focus (simp (disch := omega) only [coreA, Int.reduceBEq, base_P6] <;> with_reducible rfl)))
    refine f4_loop (k := k + 1800) (PL.grow g09) (by omega) hps (R4.grow g49) (by omega) (fun r hr => by have := hw1 r hr; omega) so sw rows.length (i := 0) (by omega) (by omega) (Grow.refl _) fun y1 y2 h' => ?_
    have hv : ∀ h', pLen Try.prog #[31] rv h' = some (.int .i64 rows.length) := fun h' => R4.len
    by_cases qr : rows.length = 0
    · repeat (first | (with_reducible apply Tl.val; focus (simp (disch := omega) only [coreA, Int.reduceBEq, base_P6, hv] <;> with_reducible rfl)) | (with_reducible first | refine Tl.brT ?_ | refine Tl.brF ?_ | refine Tl.gd_on ?_ | refine Tl.gd3_on ?_) | ((with_reducible first | apply Tl.brC | apply Tl.gdC | apply Tl.gd3C); focus (simp (disch := omega) only [coreA, Int.reduceBEq, base_P6, hv] <;> with_reducible rfl)))
      exact done _
    · obtain ⟨le1, le2⟩ := le (fun h => qr (by rw [h]; rfl))
      by_cases qw : wide = 2
      · repeat (first | (with_reducible apply Tl.val; focus (simp (disch := omega) only [coreA, Int.reduceBEq, base_P6, hv] <;> with_reducible rfl)) | (with_reducible first | refine Tl.brT ?_ | refine Tl.brF ?_ | refine Tl.gd_on ?_ | refine Tl.gd3_on ?_) | ((with_reducible first | apply Tl.brC | apply Tl.gdC | apply Tl.gd3C); focus (simp (disch := omega) only [coreA, Int.reduceBEq, base_P6, hv] <;> with_reducible rfl)))
        exact done _
      · have qo : own = wide := by
          have : wide = 1 ∨ wide = 3 := by omega
          rcases this with q | q
          · rw [le1 q, q]
          · rw [le2 q, q]
        repeat (first | (with_reducible apply Tl.val; focus (simp (disch := omega) only [coreA, Int.reduceBEq, base_P6, hv] <;> with_reducible rfl)) | (with_reducible first | refine Tl.brT ?_ | refine Tl.brF ?_ | refine Tl.gd_on ?_ | refine Tl.gd3_on ?_) | ((with_reducible first | apply Tl.brC | apply Tl.gdC | apply Tl.gd3C); focus (simp (disch := omega) only [coreA, Int.reduceBEq, base_P6, hv] <;> with_reducible rfl)))
        exact done _
  · repeat (first | (with_reducible apply Tl.val; focus (simp (disch := omega) only [coreA, Int.reduceBEq, base_P6] <;> with_reducible rfl)) | (with_reducible first | refine Tl.brT ?_ | refine Tl.brF ?_ | refine Tl.gd_on ?_ | refine Tl.gd3_on ?_) | ((with_reducible first | apply Tl.brC | apply Tl.gdC | apply Tl.gd3C); focus (simp (disch := omega) only [coreA, Int.reduceBEq, base_P6] <;> with_reducible rfl)))
    exact done _
end Go.Proofs.Ytmhgihjmhmihpaa.Sh
