/- Totals over groups are those of all rows: the law's function gives true. -/
import Derived.Test.YtgklcfnjahomjaaSzY11
import Derived.Test.YtgklcfnjahomjaaSzVv
set_option linter.unusedVariables false
set_option linter.unusedSimpArgs false
set_option maxRecDepth 100000
namespace Go.Proofs.Ytgklcfnjahomjaa.Sh
open Go Go.RowKit Go.Proofs.Ev
theorem base_Y12 : type_of% (And.intro @ld3 (And.intro @ld2 (And.intro @ld9 (And.intro @ld37 (And.intro @ld28 (And.intro @ld42 (And.intro @ld34 (And.intro @ld22 (And.intro @ld24 (And.intro @ld23 (And.intro @ld29 (And.intro @fa37_0 (And.intro @fa37_1 (And.intro @fa37_2 (And.intro @fa28_0 (And.intro @fa28_1 (And.intro @fa42_0 (And.intro @fa42_1 (And.intro @fa42_2 (And.intro @nilC (And.intro @nilRows (And.intro @ex2_0 (And.intro @ex2_1 (@Nat.add_zero)))))))))))))))))))))))) := And.intro @ld3 (And.intro @ld2 (And.intro @ld9 (And.intro @ld37 (And.intro @ld28 (And.intro @ld42 (And.intro @ld34 (And.intro @ld22 (And.intro @ld24 (And.intro @ld23 (And.intro @ld29 (And.intro @fa37_0 (And.intro @fa37_1 (And.intro @fa37_2 (And.intro @fa28_0 (And.intro @fa28_1 (And.intro @fa42_0 (And.intro @fa42_1 (And.intro @fa42_2 (And.intro @nilC (And.intro @nilRows (And.intro @ex2_0 (And.intro @ex2_1 (@Nat.add_zero)))))))))))))))))))))))
theorem lawA_row {cols : List ColD} {by_ : List Int} {c : Nat} {b : Bool} {rows : List (List CellD)} (h : ofOk cols by_ (lawA c b) rows = true) : ∀ a ∈ lawA c b, ∀ r ∈ rows, rowA a r := by
  unfold ofOk at h
  simp only [Bool.and_eq_true, List.all_eq_true] at h
  obtain ⟨ok, hr⟩ := h
  obtain ⟨_, _, _, hmay⟩ := aggsOk_may ok
  intro a ha r hrow hk
  have hm := hmay a ha
  unfold mayA thereA kindAt at hm
  rw [if_neg (by omega), if_pos hk] at hm
  simp only [Bool.and_eq_true, decide_eq_true_eq] at hm
  obtain ⟨⟨h1, h2⟩, h3⟩ := hm
  have hro := hr r hrow
  have hl := rowOk_len hro
  obtain ⟨cc, ec⟩ : ∃ x, cols[a.c.toNat]? = some x := ⟨_, List.getElem?_eq_getElem (by omega)⟩
  obtain ⟨v, ev⟩ : ∃ x, r[a.c.toNat]? = some x := ⟨_, List.getElem?_eq_getElem (by omega)⟩
  rw [ec] at h3
  have h3 : cc.kind = 1 := h3
  have hf := rowOk_at hro ec ev
  unfold fitC at hf
  simp only [Bool.and_eq_true, Bool.or_eq_true, decide_eq_true_eq] at hf
  rw [atC_in (x := v) (by omega) (by rw [Int.toNat_natCast]; exact ev)]
  rcases hf.2 with h | h
  · exact .inr (by rw [h, h3])
  · exact .inl h.1
theorem rows_at0 {h : AH} {v : Value} {r : List CellD} (R : Rows h v [r]) : ∃ b o w, pIndexAddr Try.prog 23 v (.int .i64 0) = some (.pointer (some ⟨b, o, none⟩)) ∧ h.cell b o = some w ∧ Cells h w r := by
  obtain ⟨b, o, w, h1, h2, h3⟩ := R.at_ (i := 0) (x := r) rfl
  exact ⟨b, o, w, h1, h2, h3⟩
theorem rows_one {h : AH} {w : Value} {r : List CellD} (C : Cells h w r) : Rows (h.alloc (.cells [w] 34 true)) (.slice (some ⟨h.n, 0, none⟩) 1 1) [r] :=
  ⟨[w], .inl (slV_one (r := [w]) rfl), ⟨C.grow (Grow.alloc h _), trivial⟩⟩
theorem zeroFlat (m : Nat) : (List.replicate m (crow cellZ)).flatten = flatC (List.replicate m cellZ) := by unfold flatC; rw [List.map_replicate]
theorem f4 {k : Nat} {h : AH} {cv rv bv : Value} {cols : List ColD} {rows : List (List CellD)} {by_ : List Int} {col : Int} (C : Cols h cv cols) (R : Rows h rv rows) (B : IntsZ h bv by_) (hz : -9223372036854775808 ≤ col ∧ col ≤ 9223372036854775807)
    (hcl : cols.length ≤ 9223372036854775807 ∧ cols.length < k) (hrl : rows.length ≤ 9223372036854775807 ∧ rows.length < k) (hr : ∀ r ∈ rows, r.length ≤ 9223372036854775807 ∧ r.length < k) (hbl : by_.length ≤ 9223372036854775807) (hcell : ∀ r ∈ rows, ∀ x ∈ r, cellR x) :
    Tl (F4 (eInv env (k + 110000)) (k + 110000) cv rv bv (.int .i64 col) h) fun r => r.1 = .bool true := by
  unfold F4
  have done : ∀ h' : AH, Tl (some (Value.bool true, h')) fun r => r.1 = Value.bool true := fun h' => ⟨_, rfl, rfl⟩
  have hlv := lives_call (k := k + 109999) (h := h)
  have hv : ∀ h', pLen Try.prog #[22] cv h' = some (.int .i64 cols.length) := fun h' => C.len
  have hbv : ∀ h', pLen Try.prog #[24] bv h' = some (.int .i64 by_.length) := fun h' => B.len
  by_cases q0 : cols.length = 0
  · have q0' : ((cols.length : Int) == 0) = true := by simp [q0]
    repeat (first | (with_reducible apply Tl.val; focus (simp (disch := omega) only [coreA, Int.reduceBEq, base_Y12, hlv, hv, q0'] <;> with_reducible rfl)) | (with_reducible first | refine Tl.brT ?_ | refine Tl.brF ?_ | refine Tl.gd_on ?_ | refine Tl.gd3_on ?_) | ((with_reducible first | apply Tl.brC | apply Tl.gdC | apply Tl.gd3C); focus (simp (disch := omega) only [coreA, Int.reduceBEq, base_Y12, hlv, hv, q0'] <;> with_reducible rfl)))
    exact done _
  have q0' : ((cols.length : Int) == 0) = false := beq_f (by omega)
  obtain ⟨c, hc, ec⟩ := f10c (k := k + 109999) col hz (n := cols.length) (by omega) hcl.1 h
  obtain ⟨x, ex⟩ : ∃ x, cols[c]? = some x := ⟨_, List.getElem?_eq_getElem hc⟩
  obtain ⟨b', o', hp, hrow⟩ := C.at_ ex
  have b1 := bdA1
  have b3 := bdA2 3 c
  have b4 := bdA2 4 c
  repeat (first | (with_reducible apply Tl.val; focus (simp (disch := omega) only [coreA, Int.reduceBEq, base_Y12, hlv, hv, q0', ec, b1, b3, b4] <;> with_reducible rfl)) | (with_reducible first | refine Tl.brT ?_ | refine Tl.brF ?_ | refine Tl.gd_on ?_ | refine Tl.gd3_on ?_) | ((with_reducible first | apply Tl.brC | apply Tl.gdC | apply Tl.gd3C); focus (simp (disch := omega) only [coreA, Int.reduceBEq, base_Y12, hlv, hv, q0', ec, b1, b3, b4] <;> with_reducible rfl)))
  rw [bsA3, bnd_some]
  have S1 := aggs3S (Stt.init h) c
  have ck := cellR3 (S1.grow.row hrow)
  repeat (first | (with_reducible apply Tl.val; focus (simp (disch := omega) only [coreA, Int.reduceBEq, base_Y12, hp, ck] <;> with_reducible rfl)) | (with_reducible first | refine Tl.brT ?_ | refine Tl.brF ?_ | refine Tl.gd_on ?_ | refine Tl.gd3_on ?_) | ((with_reducible first | apply Tl.brC | apply Tl.gdC | apply Tl.gd3C); focus (simp (disch := omega) only [coreA, Int.reduceBEq, base_Y12, hp, ck] <;> with_reducible rfl)))
  refine f4_aggs S1 fun h2 lv y1 y2 S2 => ?_
  generalize (x.kind == 1) = ib at S2
  have C2 := C.grow S2.grow
  have R2 := R.grow S2.grow
  have B2 := B.grow S2.grow
  have G2 : Aggs h2 lv (lawA c ib) := (S2.slV 0 rfl).z
  have hal : (lawA c ib).length ≤ 4 ∧ 3 ≤ (lawA c ib).length := by unfold lawA; cases ib <;> simp
  have p1 := f11e (k := k + 109996) C2 R2 B2 G2 ⟨by omega, by omega⟩ ⟨hrl.1, by omega⟩ (fun r hx => ⟨(hr r hx).1, by have := (hr r hx).2; omega⟩) hbl (by omega)
  cases q1 : lightA cols rows by_ (lawA c ib) with
  | false =>
    rw [q1] at p1
    repeat (first | (with_reducible apply Tl.val; focus (simp (disch := omega) only [coreA, Int.reduceBEq, base_Y12, p1] <;> with_reducible rfl)) | (with_reducible first | refine Tl.brT ?_ | refine Tl.brF ?_ | refine Tl.gd_on ?_ | refine Tl.gd3_on ?_) | ((with_reducible first | apply Tl.brC | apply Tl.gdC | apply Tl.gd3C); focus (simp (disch := omega) only [coreA, Int.reduceBEq, base_Y12, p1] <;> with_reducible rfl)))
    exact done _
  | true =>
  rw [q1] at p1
  obtain ⟨l1, l2, l3, l4, l5⟩ := lightA_all q1
  repeat (first | (with_reducible apply Tl.val; focus (simp (disch := omega) only [coreA, Int.reduceBEq, base_Y12, p1] <;> with_reducible rfl)) | (with_reducible first | refine Tl.brT ?_ | refine Tl.brF ?_ | refine Tl.gd_on ?_ | refine Tl.gd3_on ?_) | ((with_reducible first | apply Tl.brC | apply Tl.gdC | apply Tl.gd3C); focus (simp (disch := omega) only [coreA, Int.reduceBEq, base_Y12, p1] <;> with_reducible rfl)))
  have hls : ∀ r ∈ rows, r.length ≤ 1000 ∧ ∀ x ∈ r, cellR x := fun r hx => ⟨by have := l3 r hx; omega, hcell r hx⟩
  have nilB : IntsZ h2 (.slice none 0 0) [] := .inl (.inl ⟨rfl, rfl⟩)
  refine Tl.bind (f12c (k := k + 108394) C2 R2 nilB G2 (by omega) (by simp) (by omega) (by omega) hls) ?_
  rintro ⟨r1, h3⟩ res1
  rcases res1 with ⟨ok1, ⟨e1, er1, hne1⟩, g1⟩ | ⟨ok1, v1, rs1, qs1, er1, p11, p12, p13, T3⟩
  · simp only at er1 g1
    subst er1
    have C3 := C2.grow g1
    have qa : (e1 != 0) = true := bne_t hne1
    have qb : (e1 == 0) = false := beq_f hne1
    repeat (first | (with_reducible apply Tl.val; focus (simp (disch := omega) only [coreA, Int.reduceBEq, base_Y12] <;> with_reducible rfl)) | (with_reducible first | refine Tl.brT ?_ | refine Tl.brF ?_ | refine Tl.gd_on ?_ | refine Tl.gd3_on ?_) | ((with_reducible first | apply Tl.brC | apply Tl.gdC | apply Tl.gd3C); focus (simp (disch := omega) only [coreA, Int.reduceBEq, base_Y12] <;> with_reducible rfl)))
    refine Tl.bind (f12c (k := k + 108394) C3 (R2.grow g1) (B2.grow g1) (G2.grow g1) (by omega) (by omega) (by omega) (by omega) hls) ?_
    rintro ⟨r2, h4⟩ res2
    rcases res2 with ⟨ok2, ⟨e2, er2, hne2⟩, g2⟩ | ⟨ok2, v2, rs2, qs2, er2, p21, p22, p23, T4⟩
    · simp only at er2 g2
      subst er2
      have qc : (e2 != 0) = true := bne_t hne2
      have qd : (e2 == 0) = false := beq_f hne2
      simp only [G4_13, G4_14]
      repeat (first | (with_reducible apply Tl.val; focus (simp (disch := omega) only [coreA, Int.reduceBEq, base_Y12, qa, qb, qc, qd] <;> with_reducible rfl)) | (with_reducible first | refine Tl.brT ?_ | refine Tl.brF ?_ | refine Tl.gd_on ?_ | refine Tl.gd3_on ?_) | ((with_reducible first | apply Tl.brC | apply Tl.gdC | apply Tl.gd3C); focus (simp (disch := omega) only [coreA, Int.reduceBEq, base_Y12, qa, qb, qc, qd] <;> with_reducible rfl)))
      exact done _
    · simp only at er2
      subst er2
      simp only [G4_13, G4_14]
      repeat (first | (with_reducible apply Tl.val; focus (simp (disch := omega) only [coreA, Int.reduceBEq, base_Y12, qa, qb] <;> with_reducible rfl)) | (with_reducible first | refine Tl.brT ?_ | refine Tl.brF ?_ | refine Tl.gd_on ?_ | refine Tl.gd3_on ?_) | ((with_reducible first | apply Tl.brC | apply Tl.gdC | apply Tl.gd3C); focus (simp (disch := omega) only [coreA, Int.reduceBEq, base_Y12, qa, qb] <;> with_reducible rfl)))
      exact done _
  · simp only at er1 T3
    subst er1
    have g1 := T3.grow
    repeat (first | (with_reducible apply Tl.val; focus (simp (disch := omega) only [coreA, Int.reduceBEq, base_Y12] <;> with_reducible rfl)) | (with_reducible first | refine Tl.brT ?_ | refine Tl.brF ?_ | refine Tl.gd_on ?_ | refine Tl.gd3_on ?_) | ((with_reducible first | apply Tl.brC | apply Tl.gdC | apply Tl.gd3C); focus (simp (disch := omega) only [coreA, Int.reduceBEq, base_Y12] <;> with_reducible rfl)))
    refine Tl.bind (f12c (k := k + 108394) (C2.grow g1) (R2.grow g1) (B2.grow g1) (G2.grow g1) (by omega) (by omega) (by omega) (by omega) hls) ?_
    rintro ⟨r2, h4⟩ res2
    rcases res2 with ⟨ok2, ⟨e2, er2, hne2⟩, g2⟩ | ⟨ok2, v2, rs2, qs2, er2, p21, p22, p23, T4⟩
    · simp only at er2 g2
      subst er2
      have qc : (e2 != 0) = true := bne_t hne2
      have qd : (e2 == 0) = false := beq_f hne2
      simp only [G4_13, G4_14]
      repeat (first | (with_reducible apply Tl.val; focus (simp (disch := omega) only [coreA, Int.reduceBEq, base_Y12, qc, qd] <;> with_reducible rfl)) | (with_reducible first | refine Tl.brT ?_ | refine Tl.brF ?_ | refine Tl.gd_on ?_ | refine Tl.gd3_on ?_) | ((with_reducible first | apply Tl.brC | apply Tl.gdC | apply Tl.gd3C); focus (simp (disch := omega) only [coreA, Int.reduceBEq, base_Y12, qc, qd] <;> with_reducible rfl)))
      exact done _
    · simp only at er2 T4
      subst er2
      have g2 := T4.grow
      have R1 : Rows h4 v1 (rowsOf rs1) := (rowsOut (O := []) (by rw [List.append_nil]; exact T3)).grow g2
      have RP : Rows h4 v2 (rowsOf rs2) := rowsOut (O := []) (by rw [List.append_nil]; exact T4)
      have G4 : Aggs h4 lv (lawA c ib) := G2.grow (g1.trans g2)
      obtain ⟨t1, row1, t2, t3⟩ := totals_eq (lawA_row ok1) p11 p21
      rw [p13, t2] at R1
      rw [p23] at RP
      have hglen : ∀ r ∈ qs2.map rowT, r.length = by_.length + (lawA c ib).length := by
        intro r hr'
        obtain ⟨y, hy, rfl⟩ := List.mem_map.1 hr'
        have := accG_glen (lawA c ib) by_ rows (newG_glen _ _) y (p21.mem_iff.1 hy)
        unfold rowT
        simp [this.1, this.2]
      have hqs : (qs2.map rowT).length ≤ 1000 := by
        rw [List.length_map, p21.length_eq]
        have hlenG : ∀ (rows : List (List CellD)) (gs : List GD), (rows.foldl (fun gs row => addG (lawA c ib) (pickL row by_) row gs) gs).length ≤ gs.length + rows.length := fun rows => by
          induction rows with
          | nil => intro gs; simp
          | cons r l ih =>
            intro gs
            have h1 := ih (addG (lawA c ib) (pickL r by_) r gs)
            have h2 := addG_len (lawA c ib) (pickL r by_) r gs
            simp only [List.foldl_cons, List.length_cons]
            omega
        have h1 := hlenG rows (newG (lawA c ib) by_)
        have h2 := newG_len (lawA c ib) by_
        unfold accG
        omega
      obtain ⟨b0, o0, w0, i1, i2, C0⟩ := rows_at0 R1
      have hl1 : ∀ h', pLen Try.prog #[23] v1 h' = some (.int .i64 1) := fun h' => R1.len
      have hl2 : ∀ h', pLen Try.prog #[34] w0 h' = some (.int .i64 row1.length) := fun h' => C0.len
      have hla : ∀ h', pLen Try.prog #[29] lv h' = some (.int .i64 (lawA c ib).length) := fun h' => G4.len
      simp only [G4_13, G4_15]
      repeat (first | (with_reducible apply Tl.val; focus (simp (disch := omega) only [coreA, Int.reduceBEq, base_Y12, hl1, i1, i2, hl2, hla, hbv] <;> with_reducible rfl)) | (with_reducible first | refine Tl.brT ?_ | refine Tl.brF ?_ | refine Tl.gd_on ?_ | refine Tl.gd3_on ?_) | ((with_reducible first | apply Tl.brC | apply Tl.gdC | apply Tl.gd3C); focus (simp (disch := omega) only [coreA, Int.reduceBEq, base_Y12, hl1, i1, i2, hl2, hla, hbv] <;> with_reducible rfl)))
      refine Tl.makeK (Stt.init h4) appC ze37 (by omega) (by omega) fun b h5 S5 g5 => ?_
      have S5 : Stt Try.prog h4.n h4 h5 [(b, .cells (flatC (List.replicate (lawA c ib).length cellZ)) 37 true)] [] := by
        rw [← zeroFlat]; exact S5
      have hrep : (List.replicate (lawA c ib).length cellZ)[0]? = some cellZ := by
        rw [List.getElem?_replicate, if_pos (by omega)]
      obtain ⟨ix, _⟩ := outIdx S5 hrep
      rw [List.length_replicate] at ix
      have ix : pIndexAddr Try.prog 34 (.slice (some ⟨b, 0, none⟩) (lawA c ib).length (lawA c ib).length) (.int .i64 0) = some (.pointer (some ⟨b, 0, none⟩)) := ix
      repeat (first | (with_reducible apply Tl.val; focus (simp (disch := omega) only [coreA, Int.reduceBEq, base_Y12, ix] <;> with_reducible rfl)) | (with_reducible first | refine Tl.brT ?_ | refine Tl.brF ?_ | refine Tl.gd_on ?_ | refine Tl.gd3_on ?_) | ((with_reducible first | apply Tl.brC | apply Tl.gdC | apply Tl.gd3C); focus (simp (disch := omega) only [coreA, Int.reduceBEq, base_Y12, ix] <;> with_reducible rfl)))
      refine Tl.store' S5 0 rfl sz3 rfl rfl (by rw [flatC_len, List.length_replicate]; show 0 + 1 ≤ _; omega) fun h6 S6 _ => ?_
      have e0 : splice (flatC (List.replicate (lawA c ib).length cellZ)) 0 (Value.int .i64 1).cells.toList = flatC (out0 (lawA c ib).length) := by
        have := flatC_put (c := cellZ) (c' := ⟨1, 0, .empty⟩) (o := 0) (xs := [.int .i64 1]) (by show 0 + 1 ≤ 3; omega) rfl hrep
        exact this
      have S6 : Stt Try.prog h4.n h4 h6 [(b, .cells (flatC (out0 (lawA c ib).length)) 37 true)] [] := by
        rw [← e0]; exact S6
      have ol : (out0 (lawA c ib).length).length = (lawA c ib).length := by unfold out0; simp
      have hlp := RP.len (h' := h6)
      repeat (first | (with_reducible apply Tl.val; focus (simp (disch := omega) only [coreA, Int.reduceBEq, base_Y12] <;> with_reducible rfl)) | (with_reducible first | refine Tl.brT ?_ | refine Tl.brF ?_ | refine Tl.gd_on ?_ | refine Tl.gd3_on ?_) | ((with_reducible first | apply Tl.brC | apply Tl.gdC | apply Tl.gd3C); focus (simp (disch := omega) only [coreA, Int.reduceBEq, base_Y12] <;> with_reducible rfl)))
      refine f4_out (k := k + 109998) (b := b) (n := by_.length) (out0 := out0 (lawA c ib).length) G4 RP hglen ol ol l4 hal.1 hqs (by omega) (qs2.map rowT).length (i := 0) (by omega) (by rw [List.length_map] at hqs ⊢; omega) rfl rfl S6 fun h7 z1 z2 z3 z4 z5 S7 => ?_
      have RO : Rows _ _ _ := rows_one (outSlV S7).z
      have tl : (totO by_.length (qs2.map rowT) (out0 (lawA c ib).length)).length = (lawA c ib).length := by
        have : [row1] = [totO by_.length (qs2.map rowT) (out0 (lawA c ib).length)] := t2 ▸ t1
        rw [← (List.cons.inj this).1]; exact t3
      rw [tl] at RO
      have g8 := Grow.alloc h7 (.cells [.slice (some ⟨b, 0, none⟩) (lawA c ib).length (lawA c ib).length] 34 true)
      have hs := f16e (k := k + 109999) ((R1.grow S7.grow).grow g8) RO (by simp) (by simp) (fun r hr' => by rw [List.mem_singleton] at hr'; subst hr'; omega) (fun r hr' => by rw [List.mem_singleton] at hr'; subst hr'; omega) (by simp)
      have hd : decide ([row1] = [totO by_.length (qs2.map rowT) (out0 (lawA c ib).length)]) = true := decide_eq_true (t2 ▸ t1)
      rw [hd] at hs
      rw [bs23, bnd_some]
      repeat (first | (with_reducible apply Tl.val; focus (simp (disch := omega) only [coreA, Int.reduceBEq, base_Y12, hs] <;> with_reducible rfl)) | (with_reducible first | refine Tl.brT ?_ | refine Tl.brF ?_ | refine Tl.gd_on ?_ | refine Tl.gd3_on ?_) | ((with_reducible first | apply Tl.brC | apply Tl.gdC | apply Tl.gd3C); focus (simp (disch := omega) only [coreA, Int.reduceBEq, base_Y12, hs] <;> with_reducible rfl)))
      exact done _
end Go.Proofs.Ytgklcfnjahomjaa.Sh
