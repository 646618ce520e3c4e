/- Groups are apart, in order, each some row's: the law's function gives true. -/
import Derived.Test.YtgklcfnjahomjaaSzY15
set_option linter.unusedVariables false
set_option linter.unusedSimpArgs false
set_option maxRecDepth 100000
namespace Go.Proofs.Ytgklcfnjahomjaa.Sh
open Go Go.RowKit Go.Proofs.Ev
theorem base_Y16 : type_of% (And.intro @ld3 (And.intro @ld2 (And.intro @ld9 (And.intro @ld37 (And.intro @ld28 (And.intro @ld42 (And.intro @ld34 (And.intro @ld22 (And.intro @ld24 (And.intro @ld23 (And.intro @ld29 (And.intro @fa37_0 (And.intro @fa37_1 (And.intro @fa37_2 (And.intro @fa28_0 (And.intro @fa28_1 (And.intro @fa42_0 (And.intro @fa42_1 (And.intro @fa42_2 (And.intro @nilC (And.intro @nilRows (And.intro @ex2_0 (And.intro @ex2_1 (@Nat.add_zero)))))))))))))))))))))))) := And.intro @ld3 (And.intro @ld2 (And.intro @ld9 (And.intro @ld37 (And.intro @ld28 (And.intro @ld42 (And.intro @ld34 (And.intro @ld22 (And.intro @ld24 (And.intro @ld23 (And.intro @ld29 (And.intro @fa37_0 (And.intro @fa37_1 (And.intro @fa37_2 (And.intro @fa28_0 (And.intro @fa28_1 (And.intro @fa42_0 (And.intro @fa42_1 (And.intro @fa42_2 (And.intro @nilC (And.intro @nilRows (And.intro @ex2_0 (And.intro @ex2_1 (@Nat.add_zero)))))))))))))))))))))))
section
variable {h0 : AH} {β : Type} {Q : β → Prop}
theorem key_take {by_ : List Int} {rows : List (List CellD)} {c : Nat} {row key : List CellD} {lo hi : CellD} (g : GrpLaw by_ rows c row key lo hi) : row.take by_.length = key ∧ row.length = by_.length + 3 ∧
    row[by_.length]? = some ⟨1, ((rowsAt by_ rows key).length : Nat), .empty⟩ ∧ row[by_.length + 1]? = some lo ∧ row[by_.length + 2]? = some hi := by
  rw [g.row]
  refine ⟨?_, ?_, ?_, ?_, ?_⟩
  · rw [List.take_append_of_le_length (by rw [g.len]; omega), List.take_of_length_le (by rw [g.len]; omega)]
  · rw [List.length_append, g.len]; rfl
  · rw [List.getElem?_append_right (by rw [g.len]; omega), g.len, Nat.sub_self]; rfl
  · rw [List.getElem?_append_right (by rw [g.len]; omega), g.len, Nat.add_sub_cancel_left]; rfl
  · rw [List.getElem?_append_right (by rw [g.len]; omega), g.len, Nat.add_sub_cancel_left]; rfl
/-- A group is as long as it should be, and behind the one ahead. -/
theorem f3_16 {k : Nat} {h : AH} {rv bv ov a9 a13 : Value} {outs : List (List CellD)} {n i : Nat} {row : List CellD} (S : Stt Try.prog h0.n h0 h [] []) (RO : Rows h0 ov outs)
    (hrow : outs[i]? = some row) (hlen : row.length = n + 3) (hn : n ≤ 20) (hi : i ≤ 1000) (hprev : ∀ m p, i = m + 1 → outs[m]? = some p → n ≤ p.length ∧ rcmp (p.take n) (row.take n) < 0) {K : Value → AH → Option β}
    (hk : ∀ h', Stt Try.prog h0.n h0 h' [] [] → Tl (K (.bool false) h') Q) :
    Tl (G3_16 (eInv env (k + 33)) rv bv a9 ov a13 (.int .i64 n) (.int .i64 i) h K) Q := by
  obtain ⟨b, o, w, hp, hc0, Cw0⟩ := RO.at_ hrow
  have hc := S.grow.cell hc0
  have hw : ∀ h', pLen Try.prog #[34] w h' = some (.int .i64 row.length) := fun h' => Cw0.len
  simp only [G3_16]
  rcases Nat.eq_zero_or_pos i with q | q
  · subst q
    repeat (first | (with_reducible apply Tl.val; focus (simp (disch := omega) only [coreA, Int.reduceBEq, base_Y16, hp, hc, hw] <;> with_reducible rfl)) | (with_reducible first | refine Tl.brT ?_ | refine Tl.brF ?_ | refine Tl.gd_on ?_ | refine Tl.gd3_on ?_) | ((with_reducible first | apply Tl.brC | apply Tl.gdC | apply Tl.gd3C); focus (simp (disch := omega) only [coreA, Int.reduceBEq, base_Y16, hp, hc, hw] <;> with_reducible rfl)))
    exact hk _ S
  · obtain ⟨m, rfl⟩ : ∃ m, i = m + 1 := ⟨i - 1, by omega⟩
    have hm : m < outs.length := by have := (List.getElem?_eq_some_iff.1 hrow).1; omega
    obtain ⟨p, ep⟩ : ∃ x, outs[m]? = some x := ⟨_, List.getElem?_eq_getElem hm⟩
    obtain ⟨hpl, hlt⟩ := hprev m p rfl ep
    obtain ⟨b2, o2, w2, hp2, hc20, Cw20⟩ := RO.at_ ep
    have hc2 := S.grow.cell hc20
    obtain ⟨v1, hs1, Cv1, _⟩ := cellsTake Cw20 hpl
    obtain ⟨v2, hs2, Cv2, _⟩ := cellsTake Cw0 (i := n) (by omega)
    have em : ((m + 1 : Nat) : Int) - 1 = (m : Int) := by omega
    have hp2 : pIndexAddr Try.prog 23 ov (.int .i64 (((m + 1 : Nat) : Int) - 1)) = some (.pointer (some ⟨b2, o2, none⟩)) := by rw [em]; exact hp2
    repeat (first | (with_reducible apply Tl.val; focus (simp (disch := omega) only [coreA, Int.reduceBEq, base_Y16, hp, hc, hw, hp2, hc2, hs1, hs2] <;> with_reducible rfl)) | (with_reducible first | refine Tl.brT ?_ | refine Tl.brF ?_ | refine Tl.gd_on ?_ | refine Tl.gd3_on ?_) | ((with_reducible first | apply Tl.brC | apply Tl.gdC | apply Tl.gd3C); focus (simp (disch := omega) only [coreA, Int.reduceBEq, base_Y16, hp, hc, hw, hp2, hc2, hs1, hs2] <;> with_reducible rfl)))
    refine Tl.call' S (f13c (k := k + 30) (Cv1.grow S.grow) (Cv2.grow S.grow) (by rw [List.length_take]; omega) (by rw [List.length_take]; omega) (by rw [List.length_take]; omega)) fun h2 S2 g2 => ?_
    repeat (first | (with_reducible apply Tl.val; focus (simp (disch := omega) only [coreA, Int.reduceBEq, base_Y16] <;> with_reducible rfl)) | (with_reducible first | refine Tl.brT ?_ | refine Tl.brF ?_ | refine Tl.gd_on ?_ | refine Tl.gd3_on ?_) | ((with_reducible first | apply Tl.brC | apply Tl.gdC | apply Tl.gd3C); focus (simp (disch := omega) only [coreA, Int.reduceBEq, base_Y16] <;> with_reducible rfl)))
    exact hk _ S2
theorem f3_19 {k : Nat} {h : AH} {rv bv ov a9 a13 : Value} {outs : List (List CellD)} {n i : Nat} {row : List CellD} {lo hi : CellD} (S : Stt Try.prog h0.n h0 h [] []) (RO : Rows h0 ov outs)
    (hrow : outs[i]? = some row) (hlo : row[n + 1]? = some lo) (hhi : row[n + 2]? = some hi) (hn : n ≤ 20) {K : Value → Value → AH → Option β}
    (hk : ∀ b16 b17 h', Stt Try.prog h0.n h0 h' [(b17, .cells (crow hi) 37 true), (b16, .cells (crow lo) 37 true)] [] → Tl (K (.pointer (some ⟨b16, 0, none⟩)) (.pointer (some ⟨b17, 0, none⟩)) h') Q) :
    Tl (G3_19 (eInv env k) rv bv a9 ov a13 (.int .i64 n) (.int .i64 i) h K) Q := by
  obtain ⟨b, o, w, hp, hc0, Cw0⟩ := RO.at_ hrow
  have hsw := SlZ.same Cw0
  obtain ⟨b1, o1, hp1, hr10⟩ := Cw0.at_ hlo
  obtain ⟨b2, o2, hp2, hr20⟩ := Cw0.at_ hhi
  have e1 : ((n + 1 : Nat) : Int) = (n : Int) + 1 := by omega
  have e2 : ((n + 2 : Nat) : Int) = (n : Int) + 2 := by omega
  rw [e1] at hp1
  rw [e2] at hp2
  have hca := S.grow.cell hc0
  have hra1 := S.grow.row hr10
  have hra2 := S.grow.row hr20
  simp only [G3_19]
  refine Tl.alloc' S ze37 (by rfl) fun b16 h1 S1 g1 => ?_
  have hcb := S1.grow.cell hc0
  have hrb1 := S1.grow.row hr10
  have hrb2 := S1.grow.row hr20
  refine Tl.alloc' S1 ze37 (by rfl) fun b17 h2 S2 g2 => ?_
  have hcc := S2.grow.cell hc0
  have hrc1 := S2.grow.row hr10
  have hrc2 := S2.grow.row hr20
  repeat (first | (with_reducible apply Tl.val; focus (simp (disch := omega) only [coreA, Int.reduceBEq, base_Y16, hp, hcc, hp1, hrc1, hp2, hrc2] <;> with_reducible rfl)) | (with_reducible first | refine Tl.brT ?_ | refine Tl.brF ?_ | refine Tl.gd_on ?_ | refine Tl.gd3_on ?_) | ((with_reducible first | apply Tl.brC | apply Tl.gdC | apply Tl.gd3C); focus (simp (disch := omega) only [coreA, Int.reduceBEq, base_Y16, hp, hcc, hp1, hrc1, hp2, hrc2] <;> with_reducible rfl)))
  refine Tl.store' S2 1 rfl sz37 rfl rfl (by decide) fun h3 S3 _ => ?_
  have hcd := S3.grow.cell hc0
  have hrd1 := S3.grow.row hr10
  have hrd2 := S3.grow.row hr20
  repeat (first | (with_reducible apply Tl.val; focus (simp (disch := omega) only [coreA, Int.reduceBEq, base_Y16] <;> with_reducible rfl)) | (with_reducible first | refine Tl.brT ?_ | refine Tl.brF ?_ | refine Tl.gd_on ?_ | refine Tl.gd3_on ?_) | ((with_reducible first | apply Tl.brC | apply Tl.gdC | apply Tl.gd3C); focus (simp (disch := omega) only [coreA, Int.reduceBEq, base_Y16] <;> with_reducible rfl)))
  refine Tl.store' S3 0 rfl sz37 rfl rfl (by decide) fun h4 S4 _ => ?_
  have sl : sameV (.agg (crow lo).toArray) (.agg (crow lo).toArray) = true := sameCellV lo
  have sh : sameV (.agg (crow hi).toArray) (.agg (crow hi).toArray) = true := sameCellV hi
  repeat (first | (with_reducible apply Tl.val; focus (simp (disch := omega) only [coreA, Int.reduceBEq, base_Y16] <;> with_reducible rfl)) | (with_reducible first | refine Tl.brT ?_ | refine Tl.brF ?_ | refine Tl.gd_on ?_ | refine Tl.gd3_on ?_) | ((with_reducible first | apply Tl.brC | apply Tl.gdC | apply Tl.gd3C); focus (simp (disch := omega) only [coreA, Int.reduceBEq, base_Y16] <;> with_reducible rfl)))
  simp only [ld34, ld37, Option.map_some, hca, hcb, hcc, hcd, hra1, hra2, hrb1, hrb2, hrc1, hrc2, hrd1, hrd2, sameO_some, hsw, sl, sh, Bool.and_self, Bool.not_true, Bool.false_or, chkK_t]
  exact hk _ _ _ S4
/-- The least is not above the greatest. -/
theorem f3_20 {k : Nat} {h : AH} {a1 a2 a9 a11 a13 a14 a15 : Value} {b16 b17 : Nat} {lo hi : CellD} (S : Stt Try.prog h0.n h0 h [(b17, .cells (crow hi) 37 true), (b16, .cells (crow lo) 37 true)] []) (hle : lo.cmp hi ≤ 0) (hnul : lo.k = 0 ↔ hi.k = 0) {K : Value → AH → Option β}
    (hk : ∀ h', Stt Try.prog h0.n h0 h' [(b17, .cells (crow hi) 37 true), (b16, .cells (crow lo) 37 true)] [] → Tl (K (.bool false) h') Q) :
    Tl (G3_20 (eInv env (k + 33)) a1 a2 a9 a11 a13 a14 a15 (.pointer (some ⟨b16, 0, none⟩)) (.pointer (some ⟨b17, 0, none⟩)) h K) Q := by
  have r1 : h.row b17 0 3 = some (crow hi) := S.row 0 rfl rfl
  have r2 : h.row b16 0 3 = some (crow lo) := S.row 1 rfl rfl
  simp only [G3_20]
  repeat (first | (with_reducible apply Tl.val; focus (simp (disch := omega) only [coreA, Int.reduceBEq, base_Y16, r1, r2] <;> with_reducible rfl)) | (with_reducible first | refine Tl.brT ?_ | refine Tl.brF ?_ | refine Tl.gd_on ?_ | refine Tl.gd3_on ?_) | ((with_reducible first | apply Tl.brC | apply Tl.gdC | apply Tl.gd3C); focus (simp (disch := omega) only [coreA, Int.reduceBEq, base_Y16, r1, r2] <;> with_reducible rfl)))
  refine Tl.call' S (f14c (k := k + 31) lo hi h) fun h1 S1 g1 => ?_
  have c1 : h1.cell b17 0 = some (.int .i64 hi.k) := S1.cell 0 rfl rfl
  have c2 : h1.cell b16 0 = some (.int .i64 lo.k) := S1.cell 1 rfl rfl
  by_cases q : lo.k = 0
  · have q2 := hnul.1 q
    have e1 : (lo.k == 0) = true := beq_t q
    have e2 : (hi.k == 0) = true := beq_t q2
    have nb : ∀ x y, pBin Try.prog .neq 4 x y (.bool true) (.bool true) = some (.bool false) := fun x y => by kernel_rfl
    repeat (first | (with_reducible apply Tl.val; focus (simp (disch := omega) only [coreA, Int.reduceBEq, base_Y16, c1, c2, e1, e2, nb] <;> with_reducible rfl)) | (with_reducible first | refine Tl.brT ?_ | refine Tl.brF ?_ | refine Tl.gd_on ?_ | refine Tl.gd3_on ?_) | ((with_reducible first | apply Tl.brC | apply Tl.gdC | apply Tl.gd3C); focus (simp (disch := omega) only [coreA, Int.reduceBEq, base_Y16, c1, c2, e1, e2, nb] <;> with_reducible rfl)))
    exact hk _ S1
  · have q2 : ¬ hi.k = 0 := fun h => q (hnul.2 h)
    have e1 : (lo.k == 0) = false := beq_f q
    have e2 : (hi.k == 0) = false := beq_f q2
    have nb : ∀ x y, pBin Try.prog .neq 4 x y (.bool false) (.bool false) = some (.bool false) := fun x y => by kernel_rfl
    repeat (first | (with_reducible apply Tl.val; focus (simp (disch := omega) only [coreA, Int.reduceBEq, base_Y16, c1, c2, e1, e2, nb] <;> with_reducible rfl)) | (with_reducible first | refine Tl.brT ?_ | refine Tl.brF ?_ | refine Tl.gd_on ?_ | refine Tl.gd3_on ?_) | ((with_reducible first | apply Tl.brC | apply Tl.gdC | apply Tl.gd3C); focus (simp (disch := omega) only [coreA, Int.reduceBEq, base_Y16, c1, c2, e1, e2, nb] <;> with_reducible rfl)))
    exact hk _ S1
theorem anyC_nil (c : Nat) (z : CellD) : anyC c z [] = (z.k == 0) := by unfold anyC; simp; rfl
theorem anyC_true {c : Nat} {z : CellD} {rs : List (List CellD)} (h : z.k = 0 ∨ ∃ r ∈ rs, atC r c = z) : anyC c z rs = true := by
  unfold anyC
  rcases h with h | ⟨r, hr, e⟩
  · simp [h]
  · rw [Bool.or_eq_true]
    exact .inr (List.any_eq_true.2 ⟨r, hr, by simpa using e⟩)
theorem f3_32 {k : Nat} {h : AH} {rv bv ov a9 a13 : Value} {outs : List (List CellD)} {n i m : Nat} {row : List CellD} (S : Stt Try.prog h0.n h0 h [] []) (RO : Rows h0 ov outs)
    (hrow : outs[i]? = some row) (hc : row[n]? = some ⟨1, (m : Nat), .empty⟩) (hne : m = 0 → n = 0) {K : Value → AH → Option β} (hk : Tl (K (.bool false) h) Q) :
    Tl (G3_32 (eInv env k) rv bv a9 ov a13 (.int .i64 n) (.int .i64 i) (.int .i64 m) (.bool true) (.bool true) h K) Q := by
  obtain ⟨b, o, w, hp, hc0, Cw0⟩ := RO.at_ hrow
  obtain ⟨b1, o1, hp1, hr1⟩ := Cw0.at_ hc
  have h1 := S.grow.cell hc0
  have hr := S.grow.row hr1
  have h2 : h.cell b1 (o1 + 1) = some (.int .i64 (m : Int)) := by have := Ev.cell_of_row (j := 1) hr (by omega); simpa [crow] using this
  have ne : ((m : Int) != (m : Int)) = false := bne_f rfl
  simp only [G3_32]
  by_cases q : m = 0
  · have qn := hne q
    have q1 : ((m : Int) == 0) = true := beq_t (by omega)
    repeat (first | (with_reducible apply Tl.val; focus (simp (disch := omega) only [coreA, Int.reduceBEq, base_Y16, hp, h1, hp1, h2, ne, q1] <;> with_reducible rfl)) | (with_reducible first | refine Tl.brT ?_ | refine Tl.brF ?_ | refine Tl.gd_on ?_ | refine Tl.gd3_on ?_) | ((with_reducible first | apply Tl.brC | apply Tl.gdC | apply Tl.gd3C); focus (simp (disch := omega) only [coreA, Int.reduceBEq, base_Y16, hp, h1, hp1, h2, ne, q1] <;> with_reducible rfl)))
    exact hk
  · have q1 : ((m : Int) == 0) = false := beq_f (by omega)
    repeat (first | (with_reducible apply Tl.val; focus (simp (disch := omega) only [coreA, Int.reduceBEq, base_Y16, hp, h1, hp1, h2, ne, q1] <;> with_reducible rfl)) | (with_reducible first | refine Tl.brT ?_ | refine Tl.brF ?_ | refine Tl.gd_on ?_ | refine Tl.gd3_on ?_) | ((with_reducible first | apply Tl.brC | apply Tl.gdC | apply Tl.gd3C); focus (simp (disch := omega) only [coreA, Int.reduceBEq, base_Y16, hp, h1, hp1, h2, ne, q1] <;> with_reducible rfl)))
    exact hk
/-! ### All groups -/
def loF (c : Nat) (by_ : List Int) (rows : List (List CellD)) (x : GD) : CellD := mostF (-1) cellZ ((rowsAt by_ rows x.1).map fun r => atC r c)
def hiF (c : Nat) (by_ : List Int) (rows : List (List CellD)) (x : GD) : CellD := mostF 1 cellZ ((rowsAt by_ rows x.1).map fun r => atC r c)
def cntF (by_ : List Int) (rows : List (List CellD)) (x : GD) : Int := ((rowsAt by_ rows x.1).length : Nat)
theorem f3_out {k : Nat} {rv bv ov : Value} {rows : List (List CellD)} {qs : List GD} {by_ : List Int} {c n : Nat} (RW : Rows h0 rv rows) (RO : Rows h0 ov (qs.map rowT)) (B : IntsZ h0 bv by_)
    (hg : ∀ x ∈ qs, GrpLaw by_ rows c (rowT x) x.1 (loF c by_ rows x) (hiF c by_ rows x)) (hrise : qs.Pairwise fun x y => rcmp x.1 y.1 < 0) (hn : by_.length = n) (hn2 : n ≤ 20) (hcs : ∀ r ∈ rows, c < r.length ∧ r.length ≤ 20) (hl : rows.length ≤ 40) (hq : qs.length ≤ 1000) (hkk : 40 < k + 33)
    {ke0 : Value → Value → Value → Value → Value → Value → Value → Value → AH → Option β} {kr : Value → AH → Option β} (w : Nat) :
    ∀ {i j : Nat} {h : AH} {s : Int}, i + w = qs.length → w < j → s = cntsI ((qs.take i).map (cntF by_ rows)) → Stt Try.prog h0.n h0 h [] [] →
      (∀ h' y2 y9 y15 y59, Stt Try.prog h0.n h0 h' [] [] → Tl (ke0 rv y2 y9 ov (.int .i64 (cntsI (qs.map (cntF by_ rows)))) (.int .i64 n) y15 y59 h') Q) →
      Tl (F3_lrlrrrrrrrrr (eInv env (k + 33)) (k + 33) j rv bv (.int .i64 c) ov (.int .i64 s) (.int .i64 n) (.int .i64 i) h ke0 kr) Q := by
  have hv : ∀ h', pLen Try.prog #[23] ov h' = some (.int .i64 qs.length) := fun h' => by have := RO.len (h' := h'); rwa [List.length_map] at this
  induction w with
  | zero =>
    intro i j h s hi hj hs S hk
    obtain ⟨j, rfl⟩ : ∃ q, j = q + 1 := ⟨j - 1, by omega⟩
    simp only [F3_lrlrrrrrrrrr]
    repeat (first | (with_reducible apply Tl.val; focus (simp (disch := omega) only [coreA, Int.reduceBEq, base_Y16, hv] <;> with_reducible rfl)) | (with_reducible first | refine Tl.brT ?_ | refine Tl.brF ?_ | refine Tl.gd_on ?_ | refine Tl.gd3_on ?_) | ((with_reducible first | apply Tl.brC | apply Tl.gdC | apply Tl.gd3C); focus (simp (disch := omega) only [coreA, Int.reduceBEq, base_Y16, hv] <;> with_reducible rfl)))
    rw [List.take_of_length_le (by omega)] at hs
    subst hs
    exact hk _ _ _ _ _ S
  | succ w ih =>
    intro i j h s hi hj hs S hk
    obtain ⟨j, rfl⟩ : ∃ q, j = q + 1 := ⟨j - 1, by omega⟩
    have e : (i : Int) + 1 = ((i + 1 : Nat) : Int) := by omega
    obtain ⟨x, ex⟩ : ∃ x, qs[i]? = some x := ⟨_, List.getElem?_eq_getElem (by omega)⟩
    have hxm := List.mem_of_getElem? ex
    have g := hg x hxm
    obtain ⟨k1, k2, k3, k4, k5⟩ := key_take g
    rw [hn] at k1 k2 k3 k4 k5
    have hrow : (qs.map rowT)[i]? = some (rowT x) := by rw [List.getElem?_map, ex]; rfl
    obtain ⟨b, o, w', hpi, hc0, Cw0⟩ := RO.at_ hrow
    obtain ⟨b1, o1, hp1, hr1⟩ := Cw0.at_ k3
    simp only [F3_lrlrrrrrrrrr]
    repeat (first | (with_reducible apply Tl.val; focus (simp (disch := omega) only [coreA, Int.reduceBEq, base_Y16, hv] <;> with_reducible rfl)) | (with_reducible first | refine Tl.brT ?_ | refine Tl.brF ?_ | refine Tl.gd_on ?_ | refine Tl.gd3_on ?_) | ((with_reducible first | apply Tl.brC | apply Tl.gdC | apply Tl.gd3C); focus (simp (disch := omega) only [coreA, Int.reduceBEq, base_Y16, hv] <;> with_reducible rfl)))
    refine f3_16 (k := k) S RO hrow k2 hn2 (by omega) (fun m p em ep => ?_) fun h1 S1 => ?_
    · rw [List.getElem?_map, Option.map_eq_some_iff] at ep
      obtain ⟨y, ey, rfl⟩ := ep
      have gy := hg y (List.mem_of_getElem? ey)
      obtain ⟨y1, y2, _⟩ := key_take gy
      rw [hn] at y1 y2
      refine ⟨by omega, ?_⟩
      rw [y1, k1]
      obtain ⟨my, ey'⟩ := List.getElem?_eq_some_iff.1 ey
      obtain ⟨mx, ex'⟩ := List.getElem?_eq_some_iff.1 ex
      have := List.pairwise_iff_getElem.1 hrise m i my mx (by omega)
      rw [ey', ex'] at this
      exact this
    refine Tl.brF ?_
    have hci := S1.grow.cell hc0
    have hr1' := S1.grow.row hr1
    have hcn : h1.cell b1 (o1 + 1) = some (.int .i64 ((rowsAt by_ rows x.1).length : Nat)) := by have := Ev.cell_of_row (j := 1) hr1' (by omega); simpa [crow] using this
    repeat (first | (with_reducible apply Tl.val; focus (simp (disch := omega) only [coreA, Int.reduceBEq, base_Y16, hpi, hci, hp1, hcn] <;> with_reducible rfl)) | (with_reducible first | refine Tl.brT ?_ | refine Tl.brF ?_ | refine Tl.gd_on ?_ | refine Tl.gd3_on ?_) | ((with_reducible first | apply Tl.brC | apply Tl.gdC | apply Tl.gd3C); focus (simp (disch := omega) only [coreA, Int.reduceBEq, base_Y16, hpi, hci, hp1, hcn] <;> with_reducible rfl)))
    refine f3_19 S1 RO hrow k4 k5 hn2 fun b16 b17 h2 S2 => ?_
    refine f3_20 (k := k) S2 g.le g.null fun h3 S3 => ?_
    refine Tl.brF ?_
    have c1 : h3.cell b17 0 = some (.int .i64 (hiF c by_ rows x).k) := S3.cell 0 rfl rfl
    have c2 : h3.cell b16 0 = some (.int .i64 (loF c by_ rows x).k) := S3.cell 1 rfl rfl
    simp only [G3_22]
    repeat (first | (with_reducible apply Tl.val; focus (simp (disch := omega) only [coreA, Int.reduceBEq, base_Y16, c1, c2] <;> with_reducible rfl)) | (with_reducible first | refine Tl.brT ?_ | refine Tl.brF ?_ | refine Tl.gd_on ?_ | refine Tl.gd3_on ?_) | ((with_reducible first | apply Tl.brC | apply Tl.gdC | apply Tl.gd3C); focus (simp (disch := omega) only [coreA, Int.reduceBEq, base_Y16, c1, c2] <;> with_reducible rfl)))
    rw [← anyC_nil c, ← anyC_nil c]
    refine f3_in (k := k) RW RO B hrow g hn hn2 hcs hl (by omega) rows.length (p := 0) (m := 0) (by omega) (by omega) rfl rfl rfl S3 fun h4 y1 y2 y3 y4 S4 => ?_
    rw [anyC_true g.lows, anyC_true g.highs]
    refine f3_32 S4 RO hrow k3 (fun hz => ?_) ?_
    · rcases g.ne with q | q
      · rw [← hn, q]; rfl
      · exact absurd (List.eq_nil_of_length_eq_zero hz) q
    refine Tl.brF ?_
    repeat (first | (with_reducible apply Tl.val; focus (simp (disch := omega) only [coreA, Int.reduceBEq, base_Y16] <;> with_reducible rfl)) | (with_reducible first | refine Tl.brT ?_ | refine Tl.brF ?_ | refine Tl.gd_on ?_ | refine Tl.gd3_on ?_) | ((with_reducible first | apply Tl.brC | apply Tl.gdC | apply Tl.gd3C); focus (simp (disch := omega) only [coreA, Int.reduceBEq, base_Y16] <;> with_reducible rfl)))
    rw [e]
    refine ih (by omega) (by omega) ?_ S4 hk
    rw [hs, List.take_add_one, ex, List.map_append]
    unfold cntsI
    rw [List.foldl_append]
    rfl
end
theorem nil_one {aggs : List AggD} (rows : List (List CellD)) : (accG aggs [] rows).length = 1 := by
  obtain ⟨ts, e, _⟩ := accG_all (aggs := aggs) rows (aggs.map telNew) (by simp)
  have : accG aggs [] rows = [([], ts)] := e
  rw [this]; rfl
theorem accG_len (aggs : List AggD) (by_ : List Int) (rows : List (List CellD)) : (accG aggs by_ rows).length ≤ rows.length + 1 := by
  have hlenG : ∀ (rows : List (List CellD)) (gs : List GD), (rows.foldl (fun gs row => addG aggs (pickL row by_) row gs) gs).length ≤ gs.length + rows.length := fun rows => by
    induction rows with
    | nil => intro gs; simp
    | cons r l ih =>
      intro gs
      have h1 := ih (addG aggs (pickL r by_) r gs)
      have h2 := addG_len aggs (pickL r by_) r gs
      simp only [List.foldl_cons, List.length_cons]
      omega
  have h1 := hlenG rows (newG aggs by_)
  have h2 := newG_len aggs by_
  unfold accG
  omega
theorem f3 {k : Nat} {h : AH} {cv rv bv : Value} {cols : List ColD} {rows : List (List CellD)} {by_ : List Int} {col : Int} (C : Cols h cv cols) (R : Rows h rv rows) (B : IntsZ h bv by_) (hz : -9223372036854775808 ≤ col ∧ col ≤ 9223372036854775807)
    (hcl : cols.length ≤ 9223372036854775807 ∧ cols.length < k) (hrl : rows.length ≤ 9223372036854775807 ∧ rows.length < k) (hr : ∀ r ∈ rows, r.length ≤ 9223372036854775807 ∧ r.length < k) (hbl : by_.length ≤ 9223372036854775807) (hcell : ∀ r ∈ rows, ∀ x ∈ r, cellR x) :
    Tl (F3 (eInv env (k + 110000)) (k + 110000) cv rv bv (.int .i64 col) h) fun r => r.1 = .bool true := by
  unfold F3
  have done : ∀ h' : AH, Tl (some (Value.bool true, h')) fun r => r.1 = Value.bool true := fun h' => ⟨_, rfl, rfl⟩
  have hlv := lives_call (k := k + 109999) (h := h)
  have hv : ∀ h', pLen Try.prog #[22] cv h' = some (.int .i64 cols.length) := fun h' => C.len
  have hbv : ∀ h', pLen Try.prog #[24] bv h' = some (.int .i64 by_.length) := fun h' => B.len
  have hrv : ∀ h', pLen Try.prog #[23] rv h' = some (.int .i64 rows.length) := fun h' => R.len
  by_cases q0 : cols.length = 0
  · have q0' : ((cols.length : Int) == 0) = true := by simp [q0]
    repeat (first | (with_reducible apply Tl.val; focus (simp (disch := omega) only [coreA, Int.reduceBEq, base_Y16, hlv, hv, q0'] <;> with_reducible rfl)) | (with_reducible first | refine Tl.brT ?_ | refine Tl.brF ?_ | refine Tl.gd_on ?_ | refine Tl.gd3_on ?_) | ((with_reducible first | apply Tl.brC | apply Tl.gdC | apply Tl.gd3C); focus (simp (disch := omega) only [coreA, Int.reduceBEq, base_Y16, hlv, hv, q0'] <;> with_reducible rfl)))
    exact done _
  have q0' : ((cols.length : Int) == 0) = false := beq_f (by omega)
  obtain ⟨c, hc, ec⟩ := f10c (k := k + 109999) col hz (n := cols.length) (by omega) hcl.1 h
  have b1 := bdA1
  have b3 := bdA2 3 c
  have b4 := bdA2 4 c
  repeat (first | (with_reducible apply Tl.val; focus (simp (disch := omega) only [coreA, Int.reduceBEq, base_Y16, hlv, hv, q0', ec, b1, b3, b4] <;> with_reducible rfl)) | (with_reducible first | refine Tl.brT ?_ | refine Tl.brF ?_ | refine Tl.gd_on ?_ | refine Tl.gd3_on ?_) | ((with_reducible first | apply Tl.brC | apply Tl.gdC | apply Tl.gd3C); focus (simp (disch := omega) only [coreA, Int.reduceBEq, base_Y16, hlv, hv, q0', ec, b1, b3, b4] <;> with_reducible rfl)))
  rw [bsA3, bnd_some]
  have S1 := aggs3S (Stt.init h) c
  generalize hh2 : h.alloc (.cells [.int .i64 1, .int .i64 0, .int .i64 3, .int .i64 c, .int .i64 4, .int .i64 c] 28 true) = h2 at S1
  have C2 := C.grow S1.grow
  have R2 := R.grow S1.grow
  have B2 := B.grow S1.grow
  have G2 : Aggs h2 (.slice (some ⟨h.n, 0, none⟩) 3 3) (lawA c false) := (S1.slV 0 rfl).z
  have hal : (lawA c false).length = 3 := rfl
  have p1 := f11e (k := k + 109996) C2 R2 B2 G2 ⟨by omega, by omega⟩ ⟨hrl.1, by omega⟩ (fun r hx => ⟨(hr r hx).1, by have := (hr r hx).2; omega⟩) hbl (by omega)
  subst hh2
  cases q1 : lightA cols rows by_ (lawA c false) with
  | false =>
    rw [q1] at p1
    repeat (first | (with_reducible apply Tl.val; focus (simp (disch := omega) only [coreA, Int.reduceBEq, base_Y16, p1] <;> with_reducible rfl)) | (with_reducible first | refine Tl.brT ?_ | refine Tl.brF ?_ | refine Tl.gd_on ?_ | refine Tl.gd3_on ?_) | ((with_reducible first | apply Tl.brC | apply Tl.gdC | apply Tl.gd3C); focus (simp (disch := omega) only [coreA, Int.reduceBEq, base_Y16, p1] <;> with_reducible rfl)))
    exact done _
  | true =>
  rw [q1] at p1
  obtain ⟨l1, l2, l3, l4, l5⟩ := lightA_all q1
  repeat (first | (with_reducible apply Tl.val; focus (simp (disch := omega) only [coreA, Int.reduceBEq, base_Y16, p1] <;> with_reducible rfl)) | (with_reducible first | refine Tl.brT ?_ | refine Tl.brF ?_ | refine Tl.gd_on ?_ | refine Tl.gd3_on ?_) | ((with_reducible first | apply Tl.brC | apply Tl.gdC | apply Tl.gd3C); focus (simp (disch := omega) only [coreA, Int.reduceBEq, base_Y16, p1] <;> with_reducible rfl)))
  have hls : ∀ r ∈ rows, r.length ≤ 1000 ∧ ∀ x ∈ r, cellR x := fun r hx => ⟨by have := l3 r hx; omega, hcell r hx⟩
  refine Tl.bind (f12c (k := k + 108394) C2 R2 B2 G2 (by omega) (by omega) (by omega) (by omega) hls) ?_
  rintro ⟨r1, h3⟩ res1
  rcases res1 with ⟨ok1, ⟨e1, er1, hne1⟩, g1⟩ | ⟨ok1, v1, rs1, qs, er1, p11, p12, p13, T3⟩
  · simp only at er1 g1
    subst er1
    have qa : (e1 != 0) = true := bne_t hne1
    repeat (first | (with_reducible apply Tl.val; focus (simp (disch := omega) only [coreA, Int.reduceBEq, base_Y16, qa] <;> with_reducible rfl)) | (with_reducible first | refine Tl.brT ?_ | refine Tl.brF ?_ | refine Tl.gd_on ?_ | refine Tl.gd3_on ?_) | ((with_reducible first | apply Tl.brC | apply Tl.gdC | apply Tl.gd3C); focus (simp (disch := omega) only [coreA, Int.reduceBEq, base_Y16, qa] <;> with_reducible rfl)))
    exact done _
  · simp only at er1 T3
    subst er1
    have g1 := T3.grow
    have RO : Rows h3 v1 (rowsOf rs1) := rowsOut (O := []) (by rw [List.append_nil]; exact T3)
    rw [p13] at RO
    have okk := ok1
    unfold ofOk at okk
    simp only [Bool.and_eq_true, List.all_eq_true] at okk
    obtain ⟨oka, okr⟩ := okk
    have hrel : GRel (lawA c false) by_ rows (accG (lawA c false) by_ rows) := accG_rel fun r hr' => pick_okR (okr r hr') (hcell r hr') by_
    have hgl : ∀ x ∈ qs, GrpLaw by_ rows c (rowT x) x.1 (loF c by_ rows x) (hiF c by_ rows x) := fun x hx => grp_law hrel (by omega) (p11.mem_iff.1 hx)
    have hrise := rise p11 p12 hrel.nodup hrel.key
    have hcnt := counts_all (c := c) (by_ := by_) (rows := rows) (by omega) (lawA_row ok1 ⟨1, 0⟩ (by unfold lawA; simp)) p11 fun x hx => hrel.tel x (p11.mem_iff.1 hx)
    have hcs : ∀ r ∈ rows, c < r.length ∧ r.length ≤ 20 := fun r hr' => ⟨by have := rowOk_len (okr r hr'); omega, l3 r hr'⟩
    have hql : qs.length ≤ 1000 := by have := accG_len (lawA c false) by_ rows; have := p11.length_eq; omega
    have hov : ∀ h', pLen Try.prog #[23] v1 h' = some (.int .i64 qs.length) := fun h' => by have := RO.len (h' := h'); rwa [List.length_map] at this
    repeat (first | (with_reducible apply Tl.val; focus (simp (disch := omega) only [coreA, Int.reduceBEq, base_Y16, hbv] <;> with_reducible rfl)) | (with_reducible first | refine Tl.brT ?_ | refine Tl.brF ?_ | refine Tl.gd_on ?_ | refine Tl.gd3_on ?_) | ((with_reducible first | apply Tl.brC | apply Tl.gdC | apply Tl.gd3C); focus (simp (disch := omega) only [coreA, Int.reduceBEq, base_Y16, hbv] <;> with_reducible rfl)))
    refine f3_out (k := k + 109967) (R2.grow g1) RO (B2.grow g1) hgl hrise rfl l4 hcs l2 hql (by omega) qs.length (i := 0) (by omega) (by omega) rfl (Stt.init h3) fun h4 y2 y9 y15 y59 S4 => ?_
    have hsum : cntsI (qs.map (cntF by_ rows)) = rows.length := hcnt
    rw [hsum]
    have ee : ((rows.length : Int) == (rows.length : Int)) = true := beq_t rfl
    simp only [G3_34]
    by_cases qn : by_.length = 0
    · have eb : by_ = [] := List.eq_nil_of_length_eq_zero qn
      have h1 : qs.length = 1 := by rw [p11.length_eq, eb]; exact nil_one rows
      have e1 : ((qs.length : Int) == 1) = true := beq_t (by omega)
      repeat (first | (with_reducible apply Tl.val; focus (simp (disch := omega) only [coreA, Int.reduceBEq, base_Y16, hrv, hov, ee, e1] <;> with_reducible rfl)) | (with_reducible first | refine Tl.brT ?_ | refine Tl.brF ?_ | refine Tl.gd_on ?_ | refine Tl.gd3_on ?_) | ((with_reducible first | apply Tl.brC | apply Tl.gdC | apply Tl.gd3C); focus (simp (disch := omega) only [coreA, Int.reduceBEq, base_Y16, hrv, hov, ee, e1] <;> with_reducible rfl)))
      exact done _
    · repeat (first | (with_reducible apply Tl.val; focus (simp (disch := omega) only [coreA, Int.reduceBEq, base_Y16, hrv, hov, ee] <;> with_reducible rfl)) | (with_reducible first | refine Tl.brT ?_ | refine Tl.brF ?_ | refine Tl.gd_on ?_ | refine Tl.gd3_on ?_) | ((with_reducible first | apply Tl.brC | apply Tl.gdC | apply Tl.gd3C); focus (simp (disch := omega) only [coreA, Int.reduceBEq, base_Y16, hrv, hov, ee] <;> with_reducible rfl)))
      exact done _
end Go.Proofs.Ytgklcfnjahomjaa.Sh
