/- What the document's Join comes to. -/
import Derived.Test.YtjmfokglckaneaaSzWj
set_option linter.unusedVariables false
set_option linter.unusedSimpArgs false
set_option maxRecDepth 100000
namespace Go.Proofs.Ytjmfokglckaneaa.Sh
open Go Go.RowKit Go.Proofs.Ev
theorem base_Wk : type_of% (And.intro @ld3 (And.intro @ld36 (And.intro @ld59 (And.intro @ld35 (And.intro @fa59_0 (And.intro @fa59_1 (And.intro @fa59_2 (And.intro @fa59_3 (@Nat.add_zero))))))))) := And.intro @ld3 (And.intro @ld36 (And.intro @ld59 (And.intro @ld35 (And.intro @fa59_0 (And.intro @fa59_1 (And.intro @fa59_2 (And.intro @fa59_3 (@Nat.add_zero))))))))
theorem f19_add {β : Type} {inv : Inv} {k : Nat} {Q : β → Prop} {h0 : AH} {L : List (Nat × AO)} {O : List OS} {b10 bY : Nat} {nd : NodeD} {pv x1 x5 x6 x7 x9 : Value} {ps : List Int} (N : IntsZ h0 pv ps)
    (hps : ∀ x ∈ ps, -2 ^ 50 ≤ x ∧ x ≤ 2 ^ 50) (hb : bY ≤ 2 ^ 40) (hl : ps.length ≤ 1000)
    {ke4 : Value → Value → Value → Value → Value → Value → Value → Value → Value → Value → AH → Option β} (n : Nat) :
    ∀ {i j : Nat} {h : AH} {mv : Value}, i + n = ps.length → n < j → Stt Try.prog h0.n h0 h ((b10, .cells (nrow nd pv) 59 true) :: L) ((mv, 1, irows ((ps.take i).map (· + (bY : Int)))) :: O) →
      (∀ h' mv' y12 y53, Stt Try.prog h0.n h0 h' ((b10, .cells (nrow nd pv) 59 true) :: L) ((mv', 1, irows (ps.map (· + (bY : Int)))) :: O) → Tl (ke4 x1 x5 x6 x7 (.int .i64 bY) x9 (.pointer (some ⟨b10, 0, none⟩)) mv' y12 y53 h') Q) →
      Tl (F19_lrlrrllrllrlrrllrllrlrrr inv k j x1 x5 x6 x7 (.int .i64 bY) x9 (.pointer (some ⟨b10, 0, none⟩)) mv (.int .i64 i) h ke4) Q := by
  have hv : ∀ h', pLen Try.prog #[36] pv h' = some (.int .i64 ps.length) := fun h' => N.len
  induction n with
  | zero =>
    intro i j h mv hi hj S hk
    obtain ⟨j, rfl⟩ : ∃ q, j = q + 1 := ⟨j - 1, by omega⟩
    have c5 : h.cell b10 5 = some pv := S.cell 0 rfl rfl
    rw [List.take_of_length_le (by omega)] at S
    simp only [F19_lrlrrllrllrlrrllrllrlrrr]
    repeat (first | (with_reducible apply Tl.val; focus (simp (disch := omega) only [coreA, Int.reduceBEq, base_Wk, c5, hv] <;> with_reducible rfl)) | (with_reducible first | refine Tl.brT ?_ | refine Tl.brF ?_ | refine Tl.gd_on ?_ | refine Tl.gd3_on ?_) | ((with_reducible first | apply Tl.brC | apply Tl.gdC | apply Tl.gd3C); focus (simp (disch := omega) only [coreA, Int.reduceBEq, base_Wk, c5, hv] <;> with_reducible rfl)))
    exact hk _ _ _ _ S
  | succ n ih =>
    intro i j h mv hi hj S hk
    obtain ⟨j, rfl⟩ : ∃ q, j = q + 1 := ⟨j - 1, by omega⟩
    obtain ⟨x, ex⟩ : ∃ x, ps[i]? = some x := ⟨_, List.getElem?_eq_getElem (by omega)⟩
    have hx := hps x (List.mem_of_getElem? ex)
    have c5 : h.cell b10 5 = some pv := S.cell 0 rfl rfl
    obtain ⟨b, o, hp, hc⟩ := (N.grow S.grow).at_ ex
    have e : (i : Int) + 1 = ((i + 1 : Nat) : Int) := by omega
    simp only [F19_lrlrrllrllrlrrllrllrlrrr]
    repeat (first | (with_reducible apply Tl.val; focus (simp (disch := omega) only [coreA, Int.reduceBEq, base_Wk, c5, hv, hp, hc] <;> with_reducible rfl)) | (with_reducible first | refine Tl.brT ?_ | refine Tl.brF ?_ | refine Tl.gd_on ?_ | refine Tl.gd3_on ?_) | ((with_reducible first | apply Tl.brC | apply Tl.gdC | apply Tl.gd3C); focus (simp (disch := omega) only [coreA, Int.reduceBEq, base_Wk, c5, hv, hp, hc] <;> with_reducible rfl)))
    refine Tl.push S 0 rfl app36 (bs36 _ _) rfl rfl (by rw [irows_len]; simp; omega) fun mv' h1 S1 => ?_
    rw [irows_snoc] at S1
    repeat (first | (with_reducible apply Tl.val; focus (simp (disch := omega) only [coreA, Int.reduceBEq, base_Wk] <;> with_reducible rfl)) | (with_reducible first | refine Tl.brT ?_ | refine Tl.brF ?_ | refine Tl.gd_on ?_ | refine Tl.gd3_on ?_) | ((with_reducible first | apply Tl.brC | apply Tl.gdC | apply Tl.gd3C); focus (simp (disch := omega) only [coreA, Int.reduceBEq, base_Wk] <;> with_reducible rfl)))
    rw [e]
    refine ih (by omega) (by omega) ?_ hk
    rw [List.take_add_one, ex]
    simpa using S1
theorem f19_nodes {β : Type} {k : Nat} {Q : β → Prop} {h0 : AH} {O : List OS} {b6 bY i0 b0 o0 : Nat} {cs6 : List Value} {v lv : Value} {l : List NodeD} (hpl : pIndexAddr Try.prog 49 lv (.int .i64 i0) = some (.pointer (some ⟨b0, o0, none⟩))) (hcl : h0.cell b0 o0 = some v)
    (PL : Preds h0 v l) (hb : bY ≤ 2 ^ 40) (hl : l.length ≤ 2000) (hps : ∀ nd ∈ l, nd.parts.length ≤ 900 ∧ ∀ x ∈ nd.parts, -2 ^ 50 ≤ x ∧ x ≤ 2 ^ 50) (hk1 : 1000 < k)
    {ke2 : Value → Value → Value → Value → Value → Value → Value → AH → Option β} (n : Nat) :
    ∀ {i j : Nat} {Fz : List (Nat × AO)} {rows : List (List Value)} {nodes : List NodeD} {outv : Value} {h : AH}, i + n = l.length → n < j → rows.length + n ≤ 4000 → All2 (NodeF Fz) rows nodes → Stt Try.prog h0.n h0 h ((b6, .cells cs6 59 true) :: Fz) ((outv, 6, rows) :: O) →
      (∀ h' Fz' rows' outv' y1 y2, All2 (NodeF Fz') rows' (nodes ++ (l.drop i).map (shiftN bY)) → Stt Try.prog h0.n h0 h' ((b6, .cells cs6 59 true) :: Fz') ((outv', 6, rows') :: O) → Tl (ke2 lv outv' (.pointer (some ⟨b6, 0, none⟩)) (.int .i64 i0) (.int .i64 bY) y1 y2 h') Q) →
      Tl (F19_lrlrrllrllrlrrr (eInv env k) k j lv outv (.pointer (some ⟨b6, 0, none⟩)) (.int .i64 i0) (.int .i64 bY) (.int .i64 i) h ke2) Q := by
  have hv : ∀ h', pLen Try.prog #[35] v h' = some (.int .i64 l.length) := fun h' => PL.len
  induction n with
  | zero =>
    intro i j Fz rows nodes outv h hi hj hr A S hk
    obtain ⟨j, rfl⟩ : ∃ q, j = q + 1 := ⟨j - 1, by omega⟩
    have hcl := S.grow.cell hcl
    simp only [F19_lrlrrllrllrlrrr]
    repeat (first | (with_reducible apply Tl.val; focus (simp (disch := omega) only [coreA, Int.reduceBEq, base_Wk, hpl, hcl, hv] <;> with_reducible rfl)) | (with_reducible first | refine Tl.brT ?_ | refine Tl.brF ?_ | refine Tl.gd_on ?_ | refine Tl.gd3_on ?_) | ((with_reducible first | apply Tl.brC | apply Tl.gdC | apply Tl.gd3C); focus (simp (disch := omega) only [coreA, Int.reduceBEq, base_Wk, hpl, hcl, hv] <;> with_reducible rfl)))
    rw [List.drop_eq_nil_of_le (by omega), List.map_nil, List.append_nil] at hk
    exact hk _ _ _ _ _ _ A S
  | succ n ih =>
    intro i j Fz rows nodes outv h hi hj hr A S hk
    obtain ⟨j, rfl⟩ : ∃ q, j = q + 1 := ⟨j - 1, by omega⟩
    obtain ⟨nd, ex⟩ : ∃ x, l[i]? = some x := ⟨_, List.getElem?_eq_getElem (by omega)⟩
    obtain ⟨b, o, pv, hp, hrow, N⟩ := PL.at_ ex
    obtain ⟨hn1, hn2⟩ := hps nd (List.mem_of_getElem? ex)
    have hrow1 := S.grow.row hrow
    have hcl := S.grow.cell hcl
    obtain ⟨pa, pc, epv, _⟩ := SlZ.form N
    rw [irows_len] at epv
    subst epv
    have e : (i : Int) + 1 = ((i + 1 : Nat) : Int) := by omega
    rw [drop_at ex, List.map_cons] at hk
    simp only [F19_lrlrrllrllrlrrr]
    repeat (first | (with_reducible apply Tl.val; focus (simp (disch := omega) only [coreA, Int.reduceBEq, base_Wk, hpl, hcl, hv, hp, hrow1] <;> with_reducible rfl)) | (with_reducible first | refine Tl.brT ?_ | refine Tl.brF ?_ | refine Tl.gd_on ?_ | refine Tl.gd3_on ?_) | ((with_reducible first | apply Tl.brC | apply Tl.gdC | apply Tl.gd3C); focus (simp (disch := omega) only [coreA, Int.reduceBEq, base_Wk, hpl, hcl, hv, hp, hrow1] <;> with_reducible rfl)))
    refine Tl.alloc' S ze59 (by rfl) fun b11 h1 S1 g1 => ?_
    refine Tl.store' S1 0 rfl sz59 rfl rfl (by simp [Value.cells]) fun h2 S2 k2 => ?_
    have S2 : Stt Try.prog h0.n h0 h2 ((b11, .cells (nrow nd (.slice pa nd.parts.length pc)) 59 true) :: (b6, .cells cs6 59 true) :: Fz) ((.slice none 0 0, 1, irows []) :: (outv, 6, rows) :: O) := Stt.nil S2 1
    repeat (first | (with_reducible apply Tl.val; focus (simp (disch := omega) only [coreA, Int.reduceBEq, base_Wk] <;> with_reducible rfl)) | (with_reducible first | refine Tl.brT ?_ | refine Tl.brF ?_ | refine Tl.gd_on ?_ | refine Tl.gd3_on ?_) | ((with_reducible first | apply Tl.brC | apply Tl.gdC | apply Tl.gd3C); focus (simp (disch := omega) only [coreA, Int.reduceBEq, base_Wk] <;> with_reducible rfl)))
    refine f19_add N hn2 hb (by omega) nd.parts.length (i := 0) (by omega) (by omega) (by simpa using S2) fun h3 cv y12 y53 S3 => ?_
    obtain ⟨w1, w2, w3, w4⟩ := slV_cells (S3.slV 0 rfl)
    obtain ⟨ca, cc, ecv, _⟩ := (S3.slV 0 rfl).form
    repeat (first | (with_reducible apply Tl.val; focus (simp (disch := omega) only [coreA, Int.reduceBEq, base_Wk] <;> with_reducible rfl)) | (with_reducible first | refine Tl.brT ?_ | refine Tl.brF ?_ | refine Tl.gd_on ?_ | refine Tl.gd3_on ?_) | ((with_reducible first | apply Tl.brC | apply Tl.gdC | apply Tl.gd3C); focus (simp (disch := omega) only [coreA, Int.reduceBEq, base_Wk] <;> with_reducible rfl)))
    refine Tl.store' S3 0 rfl sz36 w2 (by rw [w1]; simp [w3]) (by simp [nrow]) fun h4 S4 k4 => ?_
    have S4 : Stt Try.prog h0.n h0 h4 ((b11, .cells (nrow nd cv) 59 true) :: (b6, .cells cs6 59 true) :: Fz) ((cv, 1, irows (nd.parts.map (· + (bY : Int)))) :: (outv, 6, rows) :: O) := by
      rw [w1] at S4
      exact S4
    have r6 : h4.row b11 0 6 = some (nrow nd cv) := S4.row 0 rfl rfl
    obtain ⟨F, S6, hF⟩ := S4.freeze
    subst ecv
    repeat (first | (with_reducible apply Tl.val; focus (simp (disch := omega) only [coreA, Int.reduceBEq, base_Wk, r6] <;> with_reducible rfl)) | (with_reducible first | refine Tl.brT ?_ | refine Tl.brF ?_ | refine Tl.gd_on ?_ | refine Tl.gd3_on ?_) | ((with_reducible first | apply Tl.brC | apply Tl.gdC | apply Tl.gd3C); focus (simp (disch := omega) only [coreA, Int.reduceBEq, base_Wk, r6] <;> with_reducible rfl)))
    refine Tl.push S6 0 rfl appP (bsP nd _ _ _ _) rfl rfl (by omega) fun v' h6 S7 => ?_
    repeat (first | (with_reducible apply Tl.val; focus (simp (disch := omega) only [coreA, Int.reduceBEq, base_Wk] <;> with_reducible rfl)) | (with_reducible first | refine Tl.brT ?_ | refine Tl.brF ?_ | refine Tl.gd_on ?_ | refine Tl.gd3_on ?_) | ((with_reducible first | apply Tl.brC | apply Tl.gdC | apply Tl.gd3C); focus (simp (disch := omega) only [coreA, Int.reduceBEq, base_Wk] <;> with_reducible rfl)))
    rw [e]
    have S8 : Stt Try.prog h0.n h0 h6 ((b6, .cells cs6 59 true) :: (F ++ Fz)) ((v', 6, rows ++ [nrow nd (.slice ca (irows (nd.parts.map (· + (bY : Int)))).length cc)]) :: O) := by
      have hp : (F ++ (b11, AO.cells (nrow nd (.slice ca (irows (nd.parts.map (· + (bY : Int)))).length cc)) 59 true) :: (b6, .cells cs6 59 true) :: Fz).Perm ((b11, AO.cells (nrow nd (.slice ca (irows (nd.parts.map (· + (bY : Int)))).length cc)) 59 true) :: (b6, .cells cs6 59 true) :: (F ++ Fz)) :=
        List.perm_middle.trans (List.Perm.cons _ List.perm_middle)
      exact (S7.perm hp).drop
    refine ih (by omega) (by omega) (by simp; omega) (nodes := nodes ++ [shiftN bY nd]) ((A.mono fun _ _ h => h.more).snoc ⟨_, rfl, fun h' hm => ?_⟩) S8 fun h' Fz' rows' outv' y1 y2 A' S' => ?_
    · exact (hF h' (Mem.app.1 hm).1).z
    · rw [List.append_assoc] at A'
      exact hk h' Fz' rows' outv' _ _ A' S'
theorem f19_out {β : Type} {k : Nat} {Q : β → Prop} {h0 : AH} {b6 : Nat} {op : Int} {lv : Value} {vs : List Value} {ls : List (List NodeD)} (LV : SlZ Try.prog h0 lv 1 (vs.map fun v => [v])) (A2 : All2 (Preds h0) vs ls)
    (hlsn : ls.length ≤ 100) (hls : ∀ l ∈ ls, l.length ≤ 300 ∧ ∀ nd ∈ l, lightNode nd) (hk1 : 1001 < k)
    {ke0 : Value → Value → Value → Value → Value → AH → Option β} (n : Nat) :
    ∀ {i j : Nat} {Fz : List (Nat × AO)} {rows : List (List Value)} {st : List NodeD × List Int} {outv lpv : Value} {h : AH}, i + n = ls.length → n < j → rows.length + 301 * n ≤ 3600 → st.2.length + n ≤ 100 → All2 (NodeF Fz) rows st.1 →
      Stt Try.prog h0.n h0 h ((b6, .cells (nrow (opN op) lpv) 59 true) :: Fz) [(outv, 6, rows), (lpv, 1, irows st.2)] →
      (∀ h' Fz' rows' outv' lpv' y1 y2, rows'.length ≤ 3600 → All2 (NodeF Fz') rows' ((ls.drop i).foldl joinStep st).1 → Stt Try.prog h0.n h0 h' ((b6, .cells (nrow (opN op) lpv') 59 true) :: Fz') [(outv', 6, rows'), (lpv', 1, irows ((ls.drop i).foldl joinStep st).2)] → Tl (ke0 lv outv' (.pointer (some ⟨b6, 0, none⟩)) y1 y2 h') Q) →
      Tl (F19_lrlrrr (eInv env k) k j lv outv (.pointer (some ⟨b6, 0, none⟩)) (.int .i64 i) h ke0) Q := by
  have hlv : ∀ h', pLen Try.prog #[49] lv h' = some (.int .i64 ls.length) := fun h' => by
    have := LV.len u49 (h' := h')
    rwa [List.length_map, A2.len] at this
  induction n with
  | zero =>
    intro i j Fz rows st outv lpv h hi hj hr hs A S hk
    obtain ⟨j, rfl⟩ : ∃ q, j = q + 1 := ⟨j - 1, by omega⟩
    simp only [F19_lrlrrr]
    repeat (first | (with_reducible apply Tl.val; focus (simp (disch := omega) only [coreA, Int.reduceBEq, base_Wk, hlv] <;> with_reducible rfl)) | (with_reducible first | refine Tl.brT ?_ | refine Tl.brF ?_ | refine Tl.gd_on ?_ | refine Tl.gd3_on ?_) | ((with_reducible first | apply Tl.brC | apply Tl.gdC | apply Tl.gd3C); focus (simp (disch := omega) only [coreA, Int.reduceBEq, base_Wk, hlv] <;> with_reducible rfl)))
    rw [List.drop_eq_nil_of_le (by omega)] at hk
    exact hk _ _ _ _ _ _ _ (by omega) A S
  | succ n ih =>
    intro i j Fz rows st outv lpv h hi hj hr hs A S hk
    obtain ⟨j, rfl⟩ : ∃ q, j = q + 1 := ⟨j - 1, by omega⟩
    obtain ⟨l, ex⟩ : ∃ x, ls[i]? = some x := ⟨_, List.getElem?_eq_getElem (by omega)⟩
    obtain ⟨pv, epv, PL⟩ := A2.get ex
    obtain ⟨hl1, hl2⟩ := hls l (List.mem_of_getElem? ex)
    obtain ⟨b, o, hp, hrow⟩ := LV.at_ (t := 49) (k := .i64) (i := i) (r := [pv]) (by simp [epv]) u49 sz35
    have hc0 : h0.cell b o = some pv := by simpa using Ev.cell_of_row (j := 0) hrow (by omega)
    have hc1 := S.grow.cell hc0
    have e : (i : Int) + 1 = ((i + 1 : Nat) : Int) := by omega
    rw [drop_at ex, List.foldl_cons] at hk
    have hlo : ∀ h', pLen Try.prog #[35] outv h' = some (.int .i64 rows.length) := fun h' => (S.slV 0 rfl).len u35
    have hlp : ∀ h', pLen Try.prog #[35] pv h' = some (.int .i64 l.length) := fun h' => PL.len
    have el : rows.length = st.1.length := A.len
    simp only [F19_lrlrrr]
    unfold F19_rlrllrllrlrrr
    -- what comes behind the nodes
    have tail : ∀ (Fz' : List (Nat × AO)) (rows' : List (List Value)) (outv' : Value) (h' : AH), rows'.length + 301 * n ≤ 3600 → All2 (NodeF Fz') rows' (joinStep st l).1 → Stt Try.prog h0.n h0 h' ((b6, .cells (nrow (opN op) lpv) 59 true) :: Fz') [(outv', 6, rows'), (lpv, 1, irows st.2)] →
        Tl (G19_20 (eInv env k) lv outv' (.pointer (some ⟨b6, 0, none⟩)) (.int .i64 i) h' fun h_8 =>
          bnd (pBin Try.prog .add 3 (.tmp 19) (.const (.int .i64 1)) (.int .i64 i) (.int .i64 1)) fun x20 =>
          F19_lrlrrr (eInv env k) k j lv outv' (.pointer (some ⟨b6, 0, none⟩)) x20 h_8 ke0) Q := by
      intro Fz' rows' outv' h' hr' A' S'
      have c5 : h'.cell b6 5 = some lpv := S'.cell 0 rfl rfl
      have hlo' : ∀ h', pLen Try.prog #[35] outv' h' = some (.int .i64 rows'.length) := fun h' => (S'.slV 0 rfl).len u35
      repeat (first | (with_reducible apply Tl.val; focus (simp (disch := omega) only [coreA, Int.reduceBEq, base_Wk, c5, hlo'] <;> with_reducible rfl)) | (with_reducible first | refine Tl.brT ?_ | refine Tl.brF ?_ | refine Tl.gd_on ?_ | refine Tl.gd3_on ?_) | ((with_reducible first | apply Tl.brC | apply Tl.gdC | apply Tl.gd3C); focus (simp (disch := omega) only [coreA, Int.reduceBEq, base_Wk, c5, hlo'] <;> with_reducible rfl)))
      refine Tl.push S' 1 rfl app36 (bs36 _ _) rfl rfl (by rw [irows_len]; omega) fun lpv' h1 S1 => ?_
      rw [irows_snoc] at S1
      have S1 : Stt Try.prog h0.n h0 h1 ((b6, .cells (nrow (opN op) lpv) 59 true) :: Fz') [(outv', 6, rows'), (lpv', 1, irows (st.2 ++ [(rows'.length : Int) - 1]))] := S1
      obtain ⟨w1, w2, w3, w4⟩ := slV_cells (S1.slV 1 rfl)
      repeat (first | (with_reducible apply Tl.val; focus (simp (disch := omega) only [coreA, Int.reduceBEq, base_Wk] <;> with_reducible rfl)) | (with_reducible first | refine Tl.brT ?_ | refine Tl.brF ?_ | refine Tl.gd_on ?_ | refine Tl.gd3_on ?_) | ((with_reducible first | apply Tl.brC | apply Tl.gdC | apply Tl.gd3C); focus (simp (disch := omega) only [coreA, Int.reduceBEq, base_Wk] <;> with_reducible rfl)))
      refine Tl.store' S1 0 rfl sz36 w2 (by rw [w1]; simp [w3]) (by simp [nrow]) fun h2 S2 k2 => ?_
      have S2 : Stt Try.prog h0.n h0 h2 ((b6, .cells (nrow (opN op) lpv') 59 true) :: Fz') [(outv', 6, rows'), (lpv', 1, irows (st.2 ++ [(rows'.length : Int) - 1]))] := by
        rw [w1] at S2
        exact S2
      repeat (first | (with_reducible apply Tl.val; focus (simp (disch := omega) only [coreA, Int.reduceBEq, base_Wk] <;> with_reducible rfl)) | (with_reducible first | refine Tl.brT ?_ | refine Tl.brF ?_ | refine Tl.gd_on ?_ | refine Tl.gd3_on ?_) | ((with_reducible first | apply Tl.brC | apply Tl.gdC | apply Tl.gd3C); focus (simp (disch := omega) only [coreA, Int.reduceBEq, base_Wk] <;> with_reducible rfl)))
      rw [e]
      have e2 : (joinStep st l).2 = st.2 ++ [(rows'.length : Int) - 1] := by
        rw [A'.len]; rfl
      exact ih (i := i + 1) (j := j) (st := joinStep st l) (by omega) (by omega) hr' (by rw [e2]; simp; omega) A' (by rw [e2]; exact S2) hk
    by_cases q : l = []
    · have hl0 : l.length = 0 := by rw [q]; rfl
      repeat (first | (with_reducible apply Tl.val; focus (simp (disch := omega) only [coreA, Int.reduceBEq, base_Wk, hlv, hp, hc1, hlo, hlp, bd59] <;> with_reducible rfl)) | (with_reducible first | refine Tl.brT ?_ | refine Tl.brF ?_ | refine Tl.gd_on ?_ | refine Tl.gd3_on ?_) | ((with_reducible first | apply Tl.brC | apply Tl.gdC | apply Tl.gd3C); focus (simp (disch := omega) only [coreA, Int.reduceBEq, base_Wk, hlv, hp, hc1, hlo, hlp, bd59] <;> with_reducible rfl)))
      refine Tl.push S 0 rfl appP (bsP (opN 1) none 0 0 _) rfl rfl (by omega) fun v' h1 S1 => ?_
      repeat (first | (with_reducible apply Tl.val; focus (simp (disch := omega) only [coreA, Int.reduceBEq, base_Wk, hlp] <;> with_reducible rfl)) | (with_reducible first | refine Tl.brT ?_ | refine Tl.brF ?_ | refine Tl.gd_on ?_ | refine Tl.gd3_on ?_) | ((with_reducible first | apply Tl.brC | apply Tl.gdC | apply Tl.gd3C); focus (simp (disch := omega) only [coreA, Int.reduceBEq, base_Wk, hlp] <;> with_reducible rfl)))
      refine f19_nodes hp hc0 PL (by omega) (by omega) (fun nd hnd => by rw [q] at hnd; cases hnd) (by omega) 0 (i := 0) (nodes := st.1 ++ [opN 1]) (by omega) (by omega) (by simp; omega) (A.snoc ⟨_, rfl, fun h' _ => .inl (.inl ⟨rfl, rfl⟩)⟩) S1 fun h2 Fz' rows' outv' y30 y31 A' S' => ?_
      have A'' : All2 (NodeF Fz') rows' (joinStep st l).1 := by simpa [joinStep, q] using A'
      have := A''.len
      simp [joinStep, q] at this
      exact tail Fz' rows' outv' h2 (by omega) A'' S'
    · have hne : ¬ (l.length : Int) = 0 := by
        have := List.length_pos_iff.2 q
        omega
      repeat (first | (with_reducible apply Tl.val; focus (simp (disch := omega) only [coreA, Int.reduceBEq, base_Wk, hlv, hp, hc1, hlo, hlp] <;> with_reducible rfl)) | (with_reducible first | refine Tl.brT ?_ | refine Tl.brF ?_ | refine Tl.gd_on ?_ | refine Tl.gd3_on ?_) | ((with_reducible first | apply Tl.brC | apply Tl.gdC | apply Tl.gd3C); focus (simp (disch := omega) only [coreA, Int.reduceBEq, base_Wk, hlv, hp, hc1, hlo, hlp] <;> with_reducible rfl)))
      refine f19_nodes hp hc0 PL (bY := rows.length) (by omega) (by omega) hl2 (by omega) l.length (i := 0) (nodes := st.1) (by omega) (by omega) (by omega) A S fun h2 Fz' rows' outv' y30 y31 A' S' => ?_
      have A'' : All2 (NodeF Fz') rows' (joinStep st l).1 := by
        rw [el] at A'
        simpa [joinStep, q] using A'
      have := A''.len
      simp [joinStep, q] at this
      exact tail Fz' rows' outv' h2 (by omega) A'' S'
theorem f19c {k : Nat} {h : AH} {op : Int} {lv : Value} {vs : List Value} {ls : List (List NodeD)} (LV : SlZ Try.prog h lv 1 (vs.map fun v => [v])) (A2 : All2 (Preds h) vs ls)
    (hn : ls.length ≤ 10) (hls : ∀ l ∈ ls, l.length ≤ 300 ∧ ∀ nd ∈ l, lightNode nd) :
    Tl (eInv env (k + 1100) (.func 19) #[] #[.int .i64 op, lv] h) fun r => Preds r.2 r.1 (joinL op ls) ∧ Grow h r.2 := by
  rw [F19_call]
  unfold F19
  repeat (first | (with_reducible apply Tl.val; focus (simp (disch := omega) only [coreA, Int.reduceBEq, base_Wk, bd59] <;> with_reducible rfl)) | (with_reducible first | refine Tl.brT ?_ | refine Tl.brF ?_ | refine Tl.gd_on ?_ | refine Tl.gd3_on ?_) | ((with_reducible first | apply Tl.brC | apply Tl.gdC | apply Tl.gd3C); focus (simp (disch := omega) only [coreA, Int.reduceBEq, base_Wk, bd59] <;> with_reducible rfl)))
  refine Tl.alloc' (Stt.init h) ze59 (by rfl) fun b6 h1 S1 g1 => ?_
  refine Tl.store' S1 0 rfl sz59 rfl rfl (by simp [Value.cells]) fun h2 S2 k2 => ?_
  have S2 : Stt Try.prog h.n h h2 [(b6, .cells (nrow (opN op) (.slice none 0 0)) 59 true)] [(.slice none 0 0, 6, []), (.slice none 0 0, 1, irows [])] := (Stt.nil (Stt.nil S2 1) 6)
  repeat (first | (with_reducible apply Tl.val; focus (simp (disch := omega) only [coreA, Int.reduceBEq, base_Wk] <;> with_reducible rfl)) | (with_reducible first | refine Tl.brT ?_ | refine Tl.brF ?_ | refine Tl.gd_on ?_ | refine Tl.gd3_on ?_) | ((with_reducible first | apply Tl.brC | apply Tl.gdC | apply Tl.gd3C); focus (simp (disch := omega) only [coreA, Int.reduceBEq, base_Wk] <;> with_reducible rfl)))
  refine f19_out LV A2 (by omega) hls (by omega) ls.length (i := 0) (Fz := []) (rows := []) (st := ([], [])) (by omega) (by omega) (by simp; omega) (by simp; omega) trivial S2 fun h3 Fz rows outv lpv y1 y2 hr A S3 => ?_
  rw [List.drop_zero] at A S3
  have r6 : h3.row b6 0 6 = some (nrow (opN op) lpv) := S3.row 0 rfl rfl
  obtain ⟨la, lc, elp, _⟩ := (S3.slV 1 rfl).form
  subst elp
  repeat (first | (with_reducible apply Tl.val; focus (simp (disch := omega) only [coreA, Int.reduceBEq, base_Wk, r6] <;> with_reducible rfl)) | (with_reducible first | refine Tl.brT ?_ | refine Tl.brF ?_ | refine Tl.gd_on ?_ | refine Tl.gd3_on ?_) | ((with_reducible first | apply Tl.brC | apply Tl.gdC | apply Tl.gd3C); focus (simp (disch := omega) only [coreA, Int.reduceBEq, base_Wk, r6] <;> with_reducible rfl)))
  refine Tl.push S3 0 rfl appP (bsP _ _ _ _ _) rfl rfl (by omega) fun v' h4 S4 => ?_
  refine ⟨_, rfl, ?_, S4.grow⟩
  refine ⟨_, (S4.slV 0 rfl).z, (A.mono fun r nd hrn => ?_).snoc ⟨_, rfl, (S4.slV 1 rfl).z⟩⟩
  obtain ⟨pv, er, hpv⟩ := hrn
  exact ⟨pv, er, hpv _ S4.sta.mem.2⟩
end Go.Proofs.Ytjmfokglckaneaa.Sh
