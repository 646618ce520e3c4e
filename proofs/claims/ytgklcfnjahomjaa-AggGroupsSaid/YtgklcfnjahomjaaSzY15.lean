/- Groups are apart, in order, each some row's: the law's loops. -/
import Derived.Test.YtgklcfnjahomjaaSzY14
set_option linter.unusedVariables false
set_option linter.unusedSimpArgs false
set_option maxRecDepth 100000
namespace Go.Proofs.Ytgklcfnjahomjaa.Sh
open Go Go.RowKit Go.Proofs.Ev
theorem base_Y15 : type_of% (And.intro @ld3 (And.intro @ld2 (And.intro @ld9 (And.intro @ld37 (And.intro @ld28 (And.intro @ld42 (And.intro @ld34 (And.intro @ld22 (And.intro @ld24 (And.intro @ld23 (And.intro @ld29 (And.intro @fa37_0 (And.intro @fa37_1 (And.intro @fa37_2 (And.intro @fa28_0 (And.intro @fa28_1 (And.intro @fa42_0 (And.intro @fa42_1 (And.intro @fa42_2 (And.intro @nilC (And.intro @nilRows (And.intro @ex2_0 (And.intro @ex2_1 (@Nat.add_zero)))))))))))))))))))))))) := And.intro @ld3 (And.intro @ld2 (And.intro @ld9 (And.intro @ld37 (And.intro @ld28 (And.intro @ld42 (And.intro @ld34 (And.intro @ld22 (And.intro @ld24 (And.intro @ld23 (And.intro @ld29 (And.intro @fa37_0 (And.intro @fa37_1 (And.intro @fa37_2 (And.intro @fa28_0 (And.intro @fa28_1 (And.intro @fa42_0 (And.intro @fa42_1 (And.intro @fa42_2 (And.intro @nilC (And.intro @nilRows (And.intro @ex2_0 (And.intro @ex2_1 (@Nat.add_zero)))))))))))))))))))))))
theorem cellsTake {h : AH} {v : Value} {l : List CellD} (S : Cells h v l) {i : Nat} (hi : i ≤ l.length) : ∃ v', (∀ h', pSlice Try.prog 34 v none (some (.int .i64 i)) none h' = some v') ∧ Cells h v' (l.take i) ∧ sameV v' v' = true := by
  obtain ⟨v', h1, h2, h3⟩ := SlZ.take S u34 sz37 (k := .i64) (i := i) (by simpa using hi)
  exact ⟨v', h1, by rw [← List.map_take] at h2; exact h2, h3⟩
theorem sameCellV (c : CellD) : sameV (CellD.v c) (CellD.v c) = true := by
  have : (c.s == c.s) = true := sameV_string (s := c.s)
  simp [sameV, sameList, same0, CellD.v, this]
section
variable {h0 : AH} {β : Type} {Q : β → Prop}
/-- Does a row belong to a group? -/
theorem f3_26 {k : Nat} {h : AH} {L : List (Nat × AO)} {rv bv ov a9 a13 a16 a17 a18 a19 a20 : Value} {rows outs : List (List CellD)} {by_ : List Int} {n i p : Nat} {row key r : List CellD} (S : Stt Try.prog h0.n h0 h L []) (RW : Rows h0 rv rows) (RO : Rows h0 ov outs) (B : IntsZ h0 bv by_)
    (hrow : outs[i]? = some row) (hr : rows[p]? = some r) (hkey : row.take n = key) (hn : n ≤ row.length) (hb : by_.length ≤ 20) (hkl : key.length ≤ 2 ^ 40) {K : Value → AH → Option β}
    (hk : ∀ h', Stt Try.prog h0.n h0 h' L [] → Tl (K (.bool (rcmp (pickL r by_) key != 0)) h') Q) :
    Tl (G3_26 (eInv env (k + 33)) rv bv a9 ov a13 (.int .i64 n) (.int .i64 i) a16 a17 a18 a19 a20 (.int .i64 p) h K) Q := by
  obtain ⟨b, o, w, hp, hc0, Cw0⟩ := RW.at_ hr
  have hc := S.grow.cell hc0
  obtain ⟨b2, o2, w2, hp2, hc20, Cw20⟩ := RO.at_ hrow
  have hc2 := S.grow.cell hc20
  obtain ⟨v', hsl, Cv', hsv⟩ := cellsTake Cw20 hn
  rw [hkey] at Cv'
  have hsw := SlZ.same Cw20
  have hpl : (pickL r by_).length = by_.length := by unfold pickL; simp
  simp only [G3_26]
  repeat (first | (with_reducible apply Tl.val; focus (simp (disch := omega) only [coreA, Int.reduceBEq, base_Y15, hp, hc] <;> with_reducible rfl)) | (with_reducible first | refine Tl.brT ?_ | refine Tl.brF ?_ | refine Tl.gd_on ?_ | refine Tl.gd3_on ?_) | ((with_reducible first | apply Tl.brC | apply Tl.gdC | apply Tl.gd3C); focus (simp (disch := omega) only [coreA, Int.reduceBEq, base_Y15, hp, hc] <;> with_reducible rfl)))
  refine Tl.bind (f15c (k := k + 32) (Cw0.grow S.grow) (B.grow S.grow) (by omega) (by omega)) ?_
  rintro ⟨pv, h1⟩ S1'
  simp only at S1'
  have S1 := S.join S1'
  have hc21 := S1.grow.cell hc20
  have Cp : Cells h1 pv (pickL r by_) := (S1.slV 0 rfl).z
  repeat (first | (with_reducible apply Tl.val; focus (simp (disch := omega) only [coreA, Int.reduceBEq, base_Y15, hp2, hc21, hsl] <;> with_reducible rfl)) | (with_reducible first | refine Tl.brT ?_ | refine Tl.brF ?_ | refine Tl.gd_on ?_ | refine Tl.gd3_on ?_) | ((with_reducible first | apply Tl.brC | apply Tl.gdC | apply Tl.gd3C); focus (simp (disch := omega) only [coreA, Int.reduceBEq, base_Y15, hp2, hc21, hsl] <;> with_reducible rfl)))
  refine Tl.call' S1 (f13c (k := k + 30) Cp (Cv'.grow S1.grow) (by omega) hkl (by omega)) fun h2 S2 g2 => ?_
  repeat (first | (with_reducible apply Tl.val; focus (simp (disch := omega) only [coreA, Int.reduceBEq, base_Y15] <;> with_reducible rfl)) | (with_reducible first | refine Tl.brT ?_ | refine Tl.brF ?_ | refine Tl.gd_on ?_ | refine Tl.gd3_on ?_) | ((with_reducible first | apply Tl.brC | apply Tl.gdC | apply Tl.gd3C); focus (simp (disch := omega) only [coreA, Int.reduceBEq, base_Y15] <;> with_reducible rfl)))
  simp only [ld34, hc2, hc21, sameO_some, hsw, hsl, hsv, Bool.and_self, Bool.not_true, Bool.false_or, chkK_t]
  exact hk _ S2.dropO
/-- Is a cell within the least and the greatest? -/
theorem f3_29 {k : Nat} {h : AH} {L : List (Nat × AO)} {a1 a2 a9 a11 a13 a14 a15 a18 a19 a20 a21 : Value} {b16 b17 b22 : Nat} {lo hi v : CellD} (S : Stt Try.prog h0.n h0 h ((b22, .cells (crow v) 37 true) :: (b17, .cells (crow hi) 37 true) :: (b16, .cells (crow lo) 37 true) :: L) [])
    (hin : v.k ≠ 0 → 0 ≤ v.cmp lo ∧ v.cmp hi ≤ 0) {K : Value → AH → Option β}
    (hk : ∀ h', Stt Try.prog h0.n h0 h' ((b22, .cells (crow v) 37 true) :: (b17, .cells (crow hi) 37 true) :: (b16, .cells (crow lo) 37 true) :: L) [] → Tl (K (.bool false) h') Q) :
    Tl (G3_29 (eInv env (k + 33)) a1 a2 a9 a11 a13 a14 a15 (.pointer (some ⟨b16, 0, none⟩)) (.pointer (some ⟨b17, 0, none⟩)) a18 a19 a20 a21 (.pointer (some ⟨b22, 0, none⟩)) h K) Q := by
  have c0 : h.cell b22 0 = some (.int .i64 v.k) := S.cell 0 rfl rfl
  have r0 : h.row b22 0 3 = some (crow v) := S.row 0 rfl rfl
  have r1 : h.row b17 0 3 = some (crow hi) := S.row 1 rfl rfl
  have r2 : h.row b16 0 3 = some (crow lo) := S.row 2 rfl rfl
  simp only [G3_29]
  by_cases q : v.k = 0
  · repeat (first | (with_reducible apply Tl.val; focus (simp (disch := omega) only [coreA, Int.reduceBEq, base_Y15, c0] <;> with_reducible rfl)) | (with_reducible first | refine Tl.brT ?_ | refine Tl.brF ?_ | refine Tl.gd_on ?_ | refine Tl.gd3_on ?_) | ((with_reducible first | apply Tl.brC | apply Tl.gdC | apply Tl.gd3C); focus (simp (disch := omega) only [coreA, Int.reduceBEq, base_Y15, c0] <;> with_reducible rfl)))
    exact hk _ S
  · obtain ⟨q1, q2⟩ := hin q
    repeat (first | (with_reducible apply Tl.val; focus (simp (disch := omega) only [coreA, Int.reduceBEq, base_Y15, c0, r0, r2] <;> with_reducible rfl)) | (with_reducible first | refine Tl.brT ?_ | refine Tl.brF ?_ | refine Tl.gd_on ?_ | refine Tl.gd3_on ?_) | ((with_reducible first | apply Tl.brC | apply Tl.gdC | apply Tl.gd3C); focus (simp (disch := omega) only [coreA, Int.reduceBEq, base_Y15, c0, r0, r2] <;> with_reducible rfl)))
    refine Tl.call' S (f14c (k := k + 31) v lo h) fun h1 S1 g1 => ?_
    have s0 := g1.row r0
    have s1 := g1.row r1
    repeat (first | (with_reducible apply Tl.val; focus (simp (disch := omega) only [coreA, Int.reduceBEq, base_Y15, s0, s1] <;> with_reducible rfl)) | (with_reducible first | refine Tl.brT ?_ | refine Tl.brF ?_ | refine Tl.gd_on ?_ | refine Tl.gd3_on ?_) | ((with_reducible first | apply Tl.brC | apply Tl.gdC | apply Tl.gd3C); focus (simp (disch := omega) only [coreA, Int.reduceBEq, base_Y15, s0, s1] <;> with_reducible rfl)))
    refine Tl.call' S1 (f14c (k := k + 31) v hi h1) fun h2 S2 g2 => ?_
    repeat (first | (with_reducible apply Tl.val; focus (simp (disch := omega) only [coreA, Int.reduceBEq, base_Y15] <;> with_reducible rfl)) | (with_reducible first | refine Tl.brT ?_ | refine Tl.brF ?_ | refine Tl.gd_on ?_ | refine Tl.gd3_on ?_) | ((with_reducible first | apply Tl.brC | apply Tl.gdC | apply Tl.gd3C); focus (simp (disch := omega) only [coreA, Int.reduceBEq, base_Y15] <;> with_reducible rfl)))
    exact hk _ S2
/-- Is it the least, the greatest? -/
theorem f3_31 {k : Nat} {h : AH} {L : List (Nat × AO)} {a1 a2 a9 a11 a13 a14 a15 a18 a21 : Value} {b16 b17 b22 : Nat} {lo hi v : CellD} {lw hw : Bool} (S : Stt Try.prog h0.n h0 h ((b22, .cells (crow v) 37 true) :: (b17, .cells (crow hi) 37 true) :: (b16, .cells (crow lo) 37 true) :: L) [])
    {K : Value → Value → AH → Option β} (hk : Tl (K (.bool (lw || decide (v = lo))) (.bool (hw || decide (v = hi))) h) Q) :
    Tl (G3_31 (eInv env k) a1 a2 a9 a11 a13 a14 a15 (.pointer (some ⟨b16, 0, none⟩)) (.pointer (some ⟨b17, 0, none⟩)) a18 (.bool lw) (.bool hw) a21 (.pointer (some ⟨b22, 0, none⟩)) h K) Q := by
  have r0 : h.row b22 0 3 = some (crow v) := S.row 0 rfl rfl
  have r1 : h.row b17 0 3 = some (crow hi) := S.row 1 rfl rfl
  have r2 : h.row b16 0 3 = some (crow lo) := S.row 2 rfl rfl
  have e1 : ∀ x y, pBin Try.prog .eql 37 x y (.agg (crow v).toArray) (.agg (crow lo).toArray) = some (.bool (decide (v = lo))) := fun x y => eqlC v lo
  have e2 : ∀ x y, pBin Try.prog .eql 37 x y (.agg (crow v).toArray) (.agg (crow hi).toArray) = some (.bool (decide (v = hi))) := fun x y => eqlC v hi
  simp only [G3_31]
  cases lw with
  | true =>
    rw [Bool.true_or] at hk
    cases hw with
    | true =>
      rw [Bool.true_or] at hk
      repeat (first | (with_reducible apply Tl.val; focus (simp (disch := omega) only [coreA, Int.reduceBEq, base_Y15, r0, r1, r2] <;> with_reducible rfl)) | (with_reducible first | refine Tl.brT ?_ | refine Tl.brF ?_ | refine Tl.gd_on ?_ | refine Tl.gd3_on ?_) | ((with_reducible first | apply Tl.brC | apply Tl.gdC | apply Tl.gd3C); focus (simp (disch := omega) only [coreA, Int.reduceBEq, base_Y15, r0, r1, r2] <;> with_reducible rfl)))
      exact hk
    | false =>
      rw [Bool.false_or] at hk
      repeat (first | (with_reducible apply Tl.val; focus (simp (disch := omega) only [coreA, Int.reduceBEq, base_Y15, r0, r1, r2, e1, e2] <;> with_reducible rfl)) | (with_reducible first | refine Tl.brT ?_ | refine Tl.brF ?_ | refine Tl.gd_on ?_ | refine Tl.gd3_on ?_) | ((with_reducible first | apply Tl.brC | apply Tl.gdC | apply Tl.gd3C); focus (simp (disch := omega) only [coreA, Int.reduceBEq, base_Y15, r0, r1, r2, e1, e2] <;> with_reducible rfl)))
      exact hk
  | false =>
    rw [Bool.false_or] at hk
    cases hw with
    | true =>
      rw [Bool.true_or] at hk
      repeat (first | (with_reducible apply Tl.val; focus (simp (disch := omega) only [coreA, Int.reduceBEq, base_Y15, r0, r1, r2, e1, e2] <;> with_reducible rfl)) | (with_reducible first | refine Tl.brT ?_ | refine Tl.brF ?_ | refine Tl.gd_on ?_ | refine Tl.gd3_on ?_) | ((with_reducible first | apply Tl.brC | apply Tl.gdC | apply Tl.gd3C); focus (simp (disch := omega) only [coreA, Int.reduceBEq, base_Y15, r0, r1, r2, e1, e2] <;> with_reducible rfl)))
      exact hk
    | false =>
      rw [Bool.false_or] at hk
      repeat (first | (with_reducible apply Tl.val; focus (simp (disch := omega) only [coreA, Int.reduceBEq, base_Y15, r0, r1, r2, e1, e2] <;> with_reducible rfl)) | (with_reducible first | refine Tl.brT ?_ | refine Tl.brF ?_ | refine Tl.gd_on ?_ | refine Tl.gd3_on ?_) | ((with_reducible first | apply Tl.brC | apply Tl.gdC | apply Tl.gd3C); focus (simp (disch := omega) only [coreA, Int.reduceBEq, base_Y15, r0, r1, r2, e1, e2] <;> with_reducible rfl)))
      exact hk
def anyC (c : Nat) (z : CellD) (rs : List (List CellD)) : Bool := decide (z.k = 0) || rs.any fun r => decide (atC r c = z)
theorem anyC_snoc (c : Nat) (z : CellD) (rs : List (List CellD)) (r : List CellD) : anyC c z (rs ++ [r]) = (anyC c z rs || decide (atC r c = z)) := by
  unfold anyC
  rw [List.any_append]
  simp [Bool.or_assoc]
theorem f3_in {k : Nat} {b16 b17 : Nat} {rv bv ov : Value} {rows outs : List (List CellD)} {by_ : List Int} {c n i : Nat} {row key : List CellD} {lo hi : CellD} {s : Int} (RW : Rows h0 rv rows) (RO : Rows h0 ov outs) (B : IntsZ h0 bv by_)
    (hrow : outs[i]? = some row) (g : GrpLaw by_ rows c row key lo hi) (hn : by_.length = n) (hn2 : n ≤ 20) (hcs : ∀ r ∈ rows, c < r.length ∧ r.length ≤ 20) (hl : rows.length ≤ 40) (hil : i ≤ 1000)
    {ke2 : Value → Value → Value → Value → Value → Value → Value → Value → Value → Value → Value → Value → Value → Value → AH → Option β} {kr : Value → AH → Option β} (w : Nat) :
    ∀ {p j m : Nat} {h : AH} {lw hw : Bool}, p + w = rows.length → w < j → m = (rowsAt by_ (rows.take p) key).length → lw = anyC c lo (rowsAt by_ (rows.take p) key) → hw = anyC c hi (rowsAt by_ (rows.take p) key) →
      Stt Try.prog h0.n h0 h [(b17, .cells (crow hi) 37 true), (b16, .cells (crow lo) 37 true)] [] →
      (∀ h' y1 y2 y3 y4, Stt Try.prog h0.n h0 h' [] [] → Tl (ke2 rv bv (.int .i64 c) ov (.int .i64 s) (.int .i64 n) (.int .i64 i) y1 y2 (.int .i64 (rowsAt by_ rows key).length) (.bool (anyC c lo (rowsAt by_ rows key))) (.bool (anyC c hi (rowsAt by_ rows key))) y3 y4 h') Q) →
      Tl (F3_lrlrrrrrllrllrlrrrrrrrrr (eInv env (k + 33)) (k + 33) j rv bv (.int .i64 c) ov (.int .i64 s) (.int .i64 n) (.int .i64 i) (.pointer (some ⟨b16, 0, none⟩)) (.pointer (some ⟨b17, 0, none⟩)) (.int .i64 m) (.bool lw) (.bool hw) (.int .i64 p) h ke2 kr) Q := by
  have hv : ∀ h', pLen Try.prog #[23] rv h' = some (.int .i64 rows.length) := fun h' => RW.len
  induction w with
  | zero =>
    intro p j m h lw hw hp hj hm hlw hhw S hk
    obtain ⟨j, rfl⟩ : ∃ q, j = q + 1 := ⟨j - 1, by omega⟩
    simp only [F3_lrlrrrrrllrllrlrrrrrrrrr]
    repeat (first | (with_reducible apply Tl.val; focus (simp (disch := omega) only [coreA, Int.reduceBEq, base_Y15, hv] <;> with_reducible rfl)) | (with_reducible first | refine Tl.brT ?_ | refine Tl.brF ?_ | refine Tl.gd_on ?_ | refine Tl.gd3_on ?_) | ((with_reducible first | apply Tl.brC | apply Tl.gdC | apply Tl.gd3C); focus (simp (disch := omega) only [coreA, Int.reduceBEq, base_Y15, hv] <;> with_reducible rfl)))
    rw [List.take_of_length_le (by omega)] at hm hlw hhw
    subst hm hlw hhw
    exact hk _ _ _ _ _ S.drop.drop
  | succ w ih =>
    intro p j m h lw hw hp hj hm hlw hhw S hk
    obtain ⟨j, rfl⟩ : ∃ q, j = q + 1 := ⟨j - 1, by omega⟩
    have e : (p : Int) + 1 = ((p + 1 : Nat) : Int) := by omega
    have em : (m : Int) + 1 = ((m + 1 : Nat) : Int) := by omega
    obtain ⟨r, er⟩ : ∃ x, rows[p]? = some x := ⟨_, List.getElem?_eq_getElem (by omega)⟩
    have hrm := List.mem_of_getElem? er
    obtain ⟨hc1, hc2⟩ := hcs r hrm
    have hml : m ≤ rows.length := by
      rw [hm]
      unfold rowsAt
      have := List.length_filter_le (fun r => decide (pickL r by_ = key)) (rows.take p)
      rw [List.length_take] at this
      omega
    have htk : rowsAt by_ (rows.take (p + 1)) key = rowsAt by_ (rows.take p) key ++ if pickL r by_ = key then [r] else [] := by
      rw [List.take_add_one, er]
      exact rowsAt_snoc _ _ _ _
    have hkey : row.take n = key := by
      rw [g.row, List.take_append_of_le_length (by rw [g.len]; omega), List.take_of_length_le (by rw [g.len]; omega)]
    have hrl : n ≤ row.length := by rw [g.row, List.length_append, g.len]; omega
    have hkl : key.length ≤ 2 ^ 40 := by rw [g.len]; omega
    simp only [F3_lrlrrrrrllrllrlrrrrrrrrr]
    repeat (first | (with_reducible apply Tl.val; focus (simp (disch := omega) only [coreA, Int.reduceBEq, base_Y15, hv] <;> with_reducible rfl)) | (with_reducible first | refine Tl.brT ?_ | refine Tl.brF ?_ | refine Tl.gd_on ?_ | refine Tl.gd3_on ?_) | ((with_reducible first | apply Tl.brC | apply Tl.gdC | apply Tl.gd3C); focus (simp (disch := omega) only [coreA, Int.reduceBEq, base_Y15, hv] <;> with_reducible rfl)))
    simp only [F3_lrllrlrrrrrllrllrlrrrrrrrrr]
    refine f3_26 (k := k) S RW RO B hrow er hkey hrl (by omega) hkl fun h1 S1 => ?_
    by_cases q : rcmp (pickL r by_) key = 0
    · have qe := rcmp_zero.1 q
      have qq : (rcmp (pickL r by_) key != 0) = false := bne_f q
      rw [if_pos qe] at htk
      have hmem : r ∈ rowsAt by_ rows key := by unfold rowsAt; rw [List.mem_filter]; exact ⟨hrm, by simp [qe]⟩
      obtain ⟨b, o, w1, hpr, hcr0, Cw0⟩ := RW.at_ er
      have hcr := S1.grow.cell hcr0
      obtain ⟨x, ex⟩ : ∃ x, r[c]? = some x := ⟨_, List.getElem?_eq_getElem hc1⟩
      obtain ⟨b3, o3, hp3, hrow30⟩ := Cw0.at_ ex
      have hrow3 := S1.grow.row hrow30
      have ax : atC r c = x := atC_in (by omega) (by rw [Int.toNat_natCast]; exact ex)
      repeat (first | (with_reducible apply Tl.val; focus (simp (disch := omega) only [coreA, Int.reduceBEq, base_Y15, qq, hpr, hcr, hp3, hrow3] <;> with_reducible rfl)) | (with_reducible first | refine Tl.brT ?_ | refine Tl.brF ?_ | refine Tl.gd_on ?_ | refine Tl.gd3_on ?_) | ((with_reducible first | apply Tl.brC | apply Tl.gdC | apply Tl.gd3C); focus (simp (disch := omega) only [coreA, Int.reduceBEq, base_Y15, qq, hpr, hcr, hp3, hrow3] <;> with_reducible rfl)))
      refine Tl.alloc' S1 ze37 (by rfl) fun b22 h2 S2 g2 => ?_
      refine Tl.store' S2 0 rfl sz37 rfl rfl (by decide) fun h3 S3 _ => ?_
      have S3 : Stt Try.prog h0.n h0 h3 ((b22, .cells (crow x) 37 true) :: (b17, .cells (crow hi) 37 true) :: (b16, .cells (crow lo) 37 true) :: []) [] := S3
      refine f3_29 (k := k) S3 (fun hx => by have := g.least r hmem (by rw [ax]; exact hx); rw [ax] at this; exact this) fun h4 S4 => ?_
      refine Tl.brF ?_
      refine f3_31 S4 ?_
      repeat (first | (with_reducible apply Tl.val; focus (simp (disch := omega) only [coreA, Int.reduceBEq, base_Y15] <;> with_reducible rfl)) | (with_reducible first | refine Tl.brT ?_ | refine Tl.brF ?_ | refine Tl.gd_on ?_ | refine Tl.gd3_on ?_) | ((with_reducible first | apply Tl.brC | apply Tl.gdC | apply Tl.gd3C); focus (simp (disch := omega) only [coreA, Int.reduceBEq, base_Y15] <;> with_reducible rfl)))
      rw [e, em]
      refine ih (by omega) (by omega) ?_ ?_ ?_ S4.drop hk
      · rw [htk, List.length_append, ← hm]; rfl
      · rw [htk, anyC_snoc, ← hlw, ax]
      · rw [htk, anyC_snoc, ← hhw, ax]
    · have qq : (rcmp (pickL r by_) key != 0) = true := bne_t q
      have qe : ¬ pickL r by_ = key := fun h => q (rcmp_zero.2 h)
      rw [if_neg qe, List.append_nil] at htk
      repeat (first | (with_reducible apply Tl.val; focus (simp (disch := omega) only [coreA, Int.reduceBEq, base_Y15, qq] <;> with_reducible rfl)) | (with_reducible first | refine Tl.brT ?_ | refine Tl.brF ?_ | refine Tl.gd_on ?_ | refine Tl.gd3_on ?_) | ((with_reducible first | apply Tl.brC | apply Tl.gdC | apply Tl.gd3C); focus (simp (disch := omega) only [coreA, Int.reduceBEq, base_Y15, qq] <;> with_reducible rfl)))
      rw [e]
      exact ih (by omega) (by omega) (by rw [htk]; exact hm) (by rw [htk]; exact hlw) (by rw [htk]; exact hhw) S1 hk
end
end Go.Proofs.Ytgklcfnjahomjaa.Sh
