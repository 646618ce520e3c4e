/- 'BatchCounts' comes to true. -/
import Derived.Test.YtjmfokglckaneaaSzWs
import Derived.Test.YtjmfokglckaneaaSzB7
set_option linter.unusedVariables false
set_option linter.unusedSimpArgs false
set_option maxRecDepth 100000
namespace Go.Proofs.Ytjmfokglckaneaa.Sh
open Go Go.RowKit Go.Proofs.Ev
theorem base_B8 : type_of% (And.intro @ld3 (And.intro @ld37 (And.intro @ld23 (And.intro @ld39 (And.intro @fa39_0 (And.intro @Nat.add_zero (And.intro @ex2_0 (And.intro @ex2_1 (And.intro @ex3_0 (And.intro @ex3_1 (@ex3_2))))))))))) := And.intro @ld3 (And.intro @ld37 (And.intro @ld23 (And.intro @ld39 (And.intro @fa39_0 (And.intro @Nat.add_zero (And.intro @ex2_0 (And.intro @ex2_1 (And.intro @ex3_0 (And.intro @ex3_1 (@ex3_2))))))))))
/-- How many rows a batch takes away. -/
def goneN : List (List CellD) → List ChangeD → Nat
  | _, [] => 0
  | rows, c :: l => (if c.kind = 2 then oneN rows c else 0) + goneN (oneR rows c) l
theorem oneN_hits {rows : List (List CellD)} {c : ChangeD} (h : c.kind ≠ 1) : oneN rows c ≤ rows.length := by
  unfold oneN
  rw [if_neg h]
  split
  · exact List.length_filter_le ..
  · omega
theorem one_length (rows : List (List CellD)) (c : ChangeD) : (oneR rows c).length + (if c.kind = 2 then oneN rows c else 0) = rows.length + if c.kind = 1 then c.rows.length else 0 := by
  by_cases k1 : c.kind = 1
  · rw [if_neg (by omega), if_pos k1]
    unfold oneR
    rw [if_pos k1]
    simp
  · rw [if_neg k1]
    by_cases k2 : c.kind = 2
    · have := filt_len (meant c) rows
      unfold oneR oneN
      rw [if_pos k2, if_neg k1, if_pos k2, if_neg k1, if_pos (.inl k2)]
      unfold hitsOf
      omega
    · rw [if_neg k2]
      unfold oneR
      rw [if_neg k1, if_neg k2]
      split <;> simp
theorem do_length : ∀ (l : List ChangeD) (rows : List (List CellD)), (doR rows l).length + goneN rows l = rows.length + growsN l
  | [], rows => by simp [doR, goneN, growsN]
  | c :: l, rows => by
    have h1 := do_length l (oneR rows c)
    have h2 := one_length rows c
    have h3 : growsN (c :: l) = (if c.kind = 1 then c.rows.length else 0) + growsN l := by unfold growsN; rw [List.map_cons, List.sum_cons]
    rw [show doR rows (c :: l) = doR (oneR rows c) l from rfl, h3]
    unfold goneN
    omega
theorem gone_le : ∀ (l : List ChangeD) (rows : List (List CellD)), goneN rows l ≤ doN rows l
  | [], rows => by simp [goneN]
  | c :: l, rows => by
    have := gone_le l (oneR rows c)
    unfold goneN doN
    split <;> omega
theorem broughtLight {l : List ChangeD} (h : ∀ c ∈ l, LightC c) : broughtL l ≤ l.length * 40 := by
  induction l with
  | nil => simp [broughtL]
  | cons c l ih =>
    have h1 := ih fun d hd => h d (List.mem_cons_of_mem _ hd)
    have h2 := (h c (List.mem_cons_self ..)).rows
    unfold broughtL at h1 ⊢
    rw [List.map_cons, List.sum_cons, List.length_cons]
    omega
theorem f7_loop {β : Type} {k : Nat} {Q : β → Prop} {h0 : AH} {lv x1 x7 x8 x9 : Value} {l : List ChangeD} (B : Changes h0 lv l) (ok : ∀ c ∈ l, ChOk c) (hl : l.length ≤ 1000) (hk : 100010 < k)
    {ke0 : Value → Value → Value → Value → Value → Value → Value → Value → Value → Value → AH → Option β} {kr : Value → AH → Option β} (n : Nat) :
    ∀ {i j N G : Nat} {h : AH} {x12 : Value} {rows : List (List CellD)}, i + n = l.length → n < j → Grow h0 h → Rows h x12 rows → (∀ r ∈ rows, r.length ≤ 2 ^ 30) → rows.length + broughtL (l.drop i) ≤ 4096 → N ≤ i * 10000 → G ≤ i * 10000 →
      (∀ h' ov y1 y2, Grow h0 h' → Rows h' ov (doR rows (l.drop i)) → Tl (ke0 x1 lv x7 x8 x9 (.int .i64 ((G + goneN rows (l.drop i) : Nat) : Int)) (.int .i64 ((N + doN rows (l.drop i) : Nat) : Int)) ov y1 y2 h') Q) →
      Tl (F7_lrlrrrrrr (eInv env (k + 1312)) (k + 1312) j x1 lv x7 x8 x9 (.int .i64 (G : Int)) (.int .i64 (N : Int)) x12 (.int .i64 i) h ke0 kr) Q := by
  have hv : ∀ h', pLen Try.prog #[24] lv h' = some (.int .i64 l.length) := fun h' => B.len
  induction n with
  | zero =>
    intro i j N G h x12 rows hi hj g R hr hs hN hG hk'
    obtain ⟨j, rfl⟩ : ∃ q, j = q + 1 := ⟨j - 1, by omega⟩
    rw [List.drop_eq_nil_of_le (by omega)] at hk'
    simp only [F7_lrlrrrrrr]
    repeat (first | (with_reducible apply Tl.val; focus (simp (disch := omega) only [coreA, Int.reduceBEq, base_B8, hv] <;> with_reducible rfl)) | (with_reducible first | refine Tl.brT ?_ | refine Tl.brF ?_ | refine Tl.gd_on ?_ | refine Tl.gd3_on ?_) | ((with_reducible first | apply Tl.brC | apply Tl.gdC | apply Tl.gd3C); focus (simp (disch := omega) only [coreA, Int.reduceBEq, base_B8, hv] <;> with_reducible rfl)))
    exact hk' _ _ _ _ g R
  | succ n ih =>
    intro i j N G h x12 rows hi hj g R hr hs hN hG hk'
    obtain ⟨j, rfl⟩ : ∃ q, j = q + 1 := ⟨j - 1, by omega⟩
    obtain ⟨c, ec⟩ : ∃ x, l[i]? = some x := ⟨_, List.getElem?_eq_getElem (by omega)⟩
    have okc := ok c (List.mem_of_getElem? ec)
    obtain ⟨b, o, rv, pv, iv, tv, hp, hrow, F⟩ := (B.grow g).at_ ec
    have e : (i : Int) + 1 = ((i + 1 : Nat) : Int) := by omega
    rw [drop_at ec] at hk' hs
    have hb : broughtL (c :: l.drop (i + 1)) = c.rows.length + broughtL (l.drop (i + 1)) := by unfold broughtL; rw [List.map_cons, List.sum_cons]
    rw [hb] at hs
    have hol := oneR_le (rows := rows) (c := c)
    have hnl := oneN_le rows c
    have hlen := one_length rows c
    simp only [F7_lrlrrrrrr]
    repeat (first | (with_reducible apply Tl.val; focus (simp (disch := omega) only [coreA, Int.reduceBEq, base_B8, hv, hp, hrow] <;> with_reducible rfl)) | (with_reducible first | refine Tl.brT ?_ | refine Tl.brF ?_ | refine Tl.gd_on ?_ | refine Tl.gd3_on ?_) | ((with_reducible first | apply Tl.brC | apply Tl.gdC | apply Tl.gd3C); focus (simp (disch := omega) only [coreA, Int.reduceBEq, base_B8, hv, hp, hrow] <;> with_reducible rfl)))
    refine Tl.bind (f16z (k := k + 12) R F okc (by omega) hr (by omega)) ?_
    rintro ⟨_, h3⟩ ⟨ov, rfl, R3, g3⟩
    simp only at R3 g3
    have c0 : h3.cell b o = some (.int .i64 c.kind) := by
      have := Ev.cell_of_row (j := 0) (g3.row hrow) (by omega)
      rwa [Nat.add_zero] at this
    have hlo : ∀ h', pLen Try.prog #[23] ov h' = some (.int .i64 (oneR rows c).length) := fun h' => R3.len
    have hln : ∀ h', pLen Try.prog #[23] x12 h' = some (.int .i64 rows.length) := fun h' => R.len
    have e2 : (N : Int) + (oneN rows c : Nat) = ((N + oneN rows c : Nat) : Int) := by omega
    have g' := g.trans g3
    -- what comes behind
    have next : ∀ G' : Nat, G' = G + (if c.kind = 2 then oneN rows c else 0) → G' ≤ (i + 1) * 10000 → Tl (F7_lrlrrrrrr (eInv env (k + 1312)) (k + 1312) j x1 lv x7 x8 x9 (.int .i64 (G' : Int)) (.int .i64 ((N + oneN rows c : Nat) : Int)) ov (.int .i64 ((i + 1 : Nat) : Int)) h3 ke0 kr) Q := by
      intro G' hG' hG2
      refine ih (by omega) (by omega) g' R3 (oneR_row hr okc.row) (by omega) (by omega) hG2 fun h' ov' y1 y2 q1 q3 => ?_
      have := hk' h' ov' y1 y2 q1 q3
      rw [show N + doN rows (c :: l.drop (i + 1)) = N + oneN rows c + doN (oneR rows c) (l.drop (i + 1)) by simp only [doN]; omega,
        show G + goneN rows (c :: l.drop (i + 1)) = G' + goneN (oneR rows c) (l.drop (i + 1)) by rw [hG']; simp only [goneN]; omega] at this
      exact this
    simp only [F7_rlrrllrllrlrrrrrr, G7_15]
    by_cases k1 : c.kind = 1
    · repeat (first | (with_reducible apply Tl.val; focus (simp (disch := omega) only [coreA, Int.reduceBEq, base_B8, hp, c0, hlo, hln] <;> with_reducible rfl)) | (with_reducible first | refine Tl.brT ?_ | refine Tl.brF ?_ | refine Tl.gd_on ?_ | refine Tl.gd3_on ?_) | ((with_reducible first | apply Tl.brC | apply Tl.gdC | apply Tl.gd3C); focus (simp (disch := omega) only [coreA, Int.reduceBEq, base_B8, hp, c0, hlo, hln] <;> with_reducible rfl)))
      rw [e, e2]
      exact next G (by rw [if_neg (by omega)]; rfl) (by omega)
    · have hh := oneN_hits (rows := rows) k1
      rw [if_neg k1] at hlen
      by_cases k2 : c.kind = 2
      · have e3 : (G : Int) + (oneN rows c : Nat) = ((G + oneN rows c : Nat) : Int) := by omega
        repeat (first | (with_reducible apply Tl.val; focus (simp (disch := omega) only [coreA, Int.reduceBEq, base_B8, hp, c0, hlo, hln] <;> with_reducible rfl)) | (with_reducible first | refine Tl.brT ?_ | refine Tl.brF ?_ | refine Tl.gd_on ?_ | refine Tl.gd3_on ?_) | ((with_reducible first | apply Tl.brC | apply Tl.gdC | apply Tl.gd3C); focus (simp (disch := omega) only [coreA, Int.reduceBEq, base_B8, hp, c0, hlo, hln] <;> with_reducible rfl)))
        rw [e, e2, e3]
        exact next _ (by rw [if_pos k2]) (by omega)
      · rw [if_neg k2] at hlen
        by_cases k3 : c.kind = 3
        · repeat (first | (with_reducible apply Tl.val; focus (simp (disch := omega) only [coreA, Int.reduceBEq, base_B8, hp, c0, hlo, hln] <;> with_reducible rfl)) | (with_reducible first | refine Tl.brT ?_ | refine Tl.brF ?_ | refine Tl.gd_on ?_ | refine Tl.gd3_on ?_) | ((with_reducible first | apply Tl.brC | apply Tl.gdC | apply Tl.gd3C); focus (simp (disch := omega) only [coreA, Int.reduceBEq, base_B8, hp, c0, hlo, hln] <;> with_reducible rfl)))
          rw [e, e2]
          exact next G (by rw [if_neg k2]; rfl) (by omega)
        · repeat (first | (with_reducible apply Tl.val; focus (simp (disch := omega) only [coreA, Int.reduceBEq, base_B8, hp, c0, hlo, hln] <;> with_reducible rfl)) | (with_reducible first | refine Tl.brT ?_ | refine Tl.brF ?_ | refine Tl.gd_on ?_ | refine Tl.gd3_on ?_) | ((with_reducible first | apply Tl.brC | apply Tl.gdC | apply Tl.gd3C); focus (simp (disch := omega) only [coreA, Int.reduceBEq, base_B8, hp, c0, hlo, hln] <;> with_reducible rfl)))
          rw [e, e2]
          exact next G (by rw [if_neg k2]; rfl) (by omega)
theorem f7 {k : Nat} {h : AH} {cv rv lv : Value} {cols : List ColD} {rows : List (List CellD)} {l : List ChangeD} (C : Cols h cv cols) (R : Rows h rv rows) (B : Changes h lv l)
    (hcl : cols.length ≤ 9223372036854775807 ∧ cols.length < k) (hrl : rows.length ≤ 9223372036854775807 ∧ rows.length < k) (hr : ∀ r ∈ rows, r.length ≤ 9223372036854775807 ∧ r.length < k) (hll : l.length < 9223372036854775808 ∧ l.length < k) (hs : ∀ c ∈ l, ChS 9223372036854775808 c ∧ ChS k c) (W : ∀ c ∈ l, ChCell c) :
    Tl (F7 (eInv env (k + 110000)) (k + 110000) cv rv lv h) fun r => r.1 = .bool true := by
  unfold F7
  have done : ∀ h' : AH, Tl (some (Value.bool true, h')) fun r => r.1 = Value.bool true := fun h' => ⟨_, rfl, rfl⟩
  have hlv := lives_call (k := k + 109999) (h := h)
  have p1 := f9e (k := k + 109996) C R B ⟨hcl.1, by omega⟩ ⟨hrl.1, by omega⟩ (fun r hx => ⟨(hr r hx).1, by have := (hr r hx).2; omega⟩) ⟨hll.1, by omega⟩ (fun d hd => by
    have := hs d hd
    exact ⟨this.1, ⟨by have := this.2.rows; omega, fun r hr => by have := this.2.row r hr; omega, by have := this.2.pred; omega, by have := this.2.cols; omega, by have := this.2.to; omega⟩⟩)
  simp only [G7_3]
  cases q1 : lightL cols rows l with
  | false =>
    rw [q1] at p1
    repeat (first | (with_reducible apply Tl.val; focus (simp (disch := omega) only [coreA, Int.reduceBEq, base_B8, hlv, p1] <;> with_reducible rfl)) | (with_reducible first | refine Tl.brT ?_ | refine Tl.brF ?_ | refine Tl.gd_on ?_ | refine Tl.gd3_on ?_) | ((with_reducible first | apply Tl.brC | apply Tl.gdC | apply Tl.gd3C); focus (simp (disch := omega) only [coreA, Int.reduceBEq, base_B8, hlv, p1] <;> with_reducible rfl)))
    exact done _
  | true =>
  rw [q1] at p1
  obtain ⟨⟨rl, rls⟩, ll, lc⟩ := light_all q1
  have okc : ∀ c ∈ l, ChC c := fun c hc => (lc c hc).chc (W c hc)
  have ok : ∀ c ∈ l, ChOk c := fun c hc => (lc c hc).ok
  repeat (first | (with_reducible apply Tl.val; focus (simp (disch := omega) only [coreA, Int.reduceBEq, base_B8, hlv, p1] <;> with_reducible rfl)) | (with_reducible first | refine Tl.brT ?_ | refine Tl.brF ?_ | refine Tl.gd_on ?_ | refine Tl.gd3_on ?_) | ((with_reducible first | apply Tl.brC | apply Tl.gdC | apply Tl.gd3C); focus (simp (disch := omega) only [coreA, Int.reduceBEq, base_B8, hlv, p1] <;> with_reducible rfl)))
  refine Tl.bind (f10c (k := k + 108688) C hcl.1 B (by omega) okc (by omega)) ?_
  rintro ⟨r, h1⟩ ⟨⟨z, er, hz⟩, g1⟩
  simp only at er g1
  subst er
  by_cases q2 : ¬ z = 0
  · repeat (first | (with_reducible apply Tl.val; focus (simp (disch := omega) only [coreA, Int.reduceBEq, base_B8] <;> with_reducible rfl)) | (with_reducible first | refine Tl.brT ?_ | refine Tl.brF ?_ | refine Tl.gd_on ?_ | refine Tl.gd3_on ?_) | ((with_reducible first | apply Tl.brC | apply Tl.gdC | apply Tl.gd3C); focus (simp (disch := omega) only [coreA, Int.reduceBEq, base_B8] <;> with_reducible rfl)))
    exact done _
  have q2 : z = 0 := Classical.not_not.1 q2
  have hb := hz.1 q2
  repeat (first | (with_reducible apply Tl.val; focus (simp (disch := omega) only [coreA, Int.reduceBEq, base_B8] <;> with_reducible rfl)) | (with_reducible first | refine Tl.brT ?_ | refine Tl.brF ?_ | refine Tl.gd_on ?_ | refine Tl.gd3_on ?_) | ((with_reducible first | apply Tl.brC | apply Tl.gdC | apply Tl.gd3C); focus (simp (disch := omega) only [coreA, Int.reduceBEq, base_B8] <;> with_reducible rfl)))
  refine Tl.bind (f11c (k := k + 109699) (C.grow g1) (R.grow g1) hcl.1 (by omega) (fun r hx => (hr r hx).1) (by omega)) ?_
  rintro ⟨r, h2⟩ ⟨er, g2⟩
  simp only at er g2
  subst er
  have g2 := g1.trans g2
  cases q3 : fitRs cols rows with
  | false =>
    repeat (first | (with_reducible apply Tl.val; focus (simp (disch := omega) only [coreA, Int.reduceBEq, base_B8] <;> with_reducible rfl)) | (with_reducible first | refine Tl.brT ?_ | refine Tl.brF ?_ | refine Tl.gd_on ?_ | refine Tl.gd3_on ?_) | ((with_reducible first | apply Tl.brC | apply Tl.gdC | apply Tl.gd3C); focus (simp (disch := omega) only [coreA, Int.reduceBEq, base_B8] <;> with_reducible rfl)))
    exact done _
  | true =>
  repeat (first | (with_reducible apply Tl.val; focus (simp (disch := omega) only [coreA, Int.reduceBEq, base_B8] <;> with_reducible rfl)) | (with_reducible first | refine Tl.brT ?_ | refine Tl.brF ?_ | refine Tl.gd_on ?_ | refine Tl.gd3_on ?_) | ((with_reducible first | apply Tl.brC | apply Tl.gdC | apply Tl.gd3C); focus (simp (disch := omega) only [coreA, Int.reduceBEq, base_B8] <;> with_reducible rfl)))
  have rls' : ∀ r ∈ rows, r.length ≤ 2 ^ 30 := fun r hx => by have := rls r hx; omega
  have hbl := broughtLight lc
  have hcr : ∀ c ∈ l, ∀ r ∈ c.rows, r.length ≤ 20 := fun c hc => (lc c hc).row
  refine Tl.bind (f12c (k := k + 108687) (C.grow g2) hcl.1 (R.grow g2) (B.grow g2) hb okc ok (by omega) rls' (by omega) (by omega)) ?_
  rintro ⟨_, h3⟩ ⟨ov, rfl, R3, g3⟩
  simp only at R3 g3
  have g3 := g2.trans g3
  repeat (first | (with_reducible apply Tl.val; focus (simp (disch := omega) only [coreA, Int.reduceBEq, base_B8] <;> with_reducible rfl)) | (with_reducible first | refine Tl.brT ?_ | refine Tl.brF ?_ | refine Tl.gd_on ?_ | refine Tl.gd3_on ?_) | ((with_reducible first | apply Tl.brC | apply Tl.gdC | apply Tl.gd3C); focus (simp (disch := omega) only [coreA, Int.reduceBEq, base_B8] <;> with_reducible rfl)))
  refine f7_loop (k := k + 108688) (h0 := h3) (B.grow g3) ok (by omega) (by omega) l.length (i := 0) (N := 0) (G := 0) (by omega) (by omega) (Grow.refl _) (R.grow g3) rls' (by rw [List.drop_zero]; omega) (by omega) (by omega) fun h4 nv y1 y2 g4 R4 => ?_
  rw [List.drop_zero] at R4
  rw [List.drop_zero, Nat.zero_add, Nat.zero_add]
  have hdl := doR_len l rows
  have hdr := doR_row l rows rls hcr
  have hln := do_length l rows
  have hgo := gone_le l rows
  have hn1 := doN_le l rows
  have hn2 : l.length * (rows.length + broughtL l) ≤ 18 * 1000 := Nat.mul_le_mul (by omega) (by omega)
  have hlo : ∀ h', pLen Try.prog #[23] ov h' = some (.int .i64 (doR rows l).length) := fun h' => R3.len
  have hlr : ∀ h', pLen Try.prog #[23] rv h' = some (.int .i64 rows.length) := fun h' => R.len
  simp only [G7_18]
  repeat (first | (with_reducible apply Tl.val; focus (simp (disch := omega) only [coreA, Int.reduceBEq, base_B8, hlo, hlr] <;> with_reducible rfl)) | (with_reducible first | refine Tl.brT ?_ | refine Tl.brF ?_ | refine Tl.gd_on ?_ | refine Tl.gd3_on ?_) | ((with_reducible first | apply Tl.brC | apply Tl.gdC | apply Tl.gd3C); focus (simp (disch := omega) only [coreA, Int.reduceBEq, base_B8, hlo, hlr] <;> with_reducible rfl)))
  refine Tl.bind (f29c (k := k + 109999) ((B.grow g3).grow g4) (fun c hc => (ok c hc).rows) (by omega) (by omega)) ?_
  rintro ⟨r, h5⟩ ⟨er, g5⟩
  simp only at er g5
  subst er
  repeat (first | (with_reducible apply Tl.val; focus (simp (disch := omega) only [coreA, Int.reduceBEq, base_B8] <;> with_reducible rfl)) | (with_reducible first | refine Tl.brT ?_ | refine Tl.brF ?_ | refine Tl.gd_on ?_ | refine Tl.gd3_on ?_) | ((with_reducible first | apply Tl.brC | apply Tl.gdC | apply Tl.gd3C); focus (simp (disch := omega) only [coreA, Int.reduceBEq, base_B8] <;> with_reducible rfl)))
  refine Tl.bind (f20c (k := k + 109986) (R3.grow (g4.trans g5)) (R4.grow g5) (by omega) (by omega) (fun r hx => by have := hdr r hx; omega) (fun r hx => by have := hdr r hx; omega) (by omega)) ?_
  rintro ⟨r, h6⟩ ⟨er, g6⟩
  simp only at er g6
  subst er
  simp only [decide_true]
  repeat (first | (with_reducible apply Tl.val; focus (simp (disch := omega) only [coreA, Int.reduceBEq, base_B8] <;> with_reducible rfl)) | (with_reducible first | refine Tl.brT ?_ | refine Tl.brF ?_ | refine Tl.gd_on ?_ | refine Tl.gd3_on ?_) | ((with_reducible first | apply Tl.brC | apply Tl.gdC | apply Tl.gd3C); focus (simp (disch := omega) only [coreA, Int.reduceBEq, base_B8] <;> with_reducible rfl)))
  exact done _
end Go.Proofs.Ytjmfokglckaneaa.Sh
