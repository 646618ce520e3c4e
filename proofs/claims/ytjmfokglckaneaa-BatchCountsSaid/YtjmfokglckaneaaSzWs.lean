/- batch.Do, batch.Grows. -/
import Derived.Test.YtjmfokglckaneaaSzVu
import Derived.Test.YtjmfokglckaneaaSzWr
import Derived.Test.YtjmfokglckaneaaBits
set_option linter.unusedVariables false
set_option linter.unusedSimpArgs false
set_option maxRecDepth 100000
namespace Go.Proofs.Ytjmfokglckaneaa.Sh
open Go Go.RowKit Go.Proofs.Ev
theorem base_Ws : type_of% (And.intro @ld3 (And.intro @ld23 (And.intro @ld39 (And.intro @fa39_0 (And.intro @fa39_1 (And.intro @fa39_2 (And.intro @fa39_3 (And.intro @fa39_4 (And.intro @Nat.add_zero (And.intro @ex2_0 (@ex2_1))))))))))) := And.intro @ld3 (And.intro @ld23 (And.intro @ld39 (And.intro @fa39_0 (And.intro @fa39_1 (And.intro @fa39_2 (And.intro @fa39_3 (And.intro @fa39_4 (And.intro @Nat.add_zero (And.intro @ex2_0 (@ex2_1))))))))))
/-- Rows behind a batch, and how many it met. -/
def doR (rows : List (List CellD)) (l : List ChangeD) : List (List CellD) := l.foldl oneR rows
def doN : List (List CellD) → List ChangeD → Nat
  | _, [] => 0
  | rows, c :: l => oneN rows c + doN (oneR rows c) l
theorem oneN_le (rows : List (List CellD)) (c : ChangeD) : oneN rows c ≤ rows.length + c.rows.length := by
  unfold oneN
  split
  · omega
  · split
    · have : hitsOf rows c ≤ rows.length := List.length_filter_le ..
      omega
    · omega
theorem oneR_le {rows : List (List CellD)} {c : ChangeD} : (oneR rows c).length ≤ rows.length + c.rows.length := by
  unfold oneR
  split
  · simp
  · split
    · have := List.length_filter_le (fun r => !meant c r) rows; omega
    · split <;> simp
theorem oneR_row {rows : List (List CellD)} {c : ChangeD} {m : Nat} (hr : ∀ r ∈ rows, r.length ≤ m) (hc : ∀ r ∈ c.rows, r.length ≤ m) : ∀ r ∈ oneR rows c, r.length ≤ m := by
  intro r h
  unfold oneR at h
  split at h
  · rcases List.mem_append.1 h with h | h
    · exact hr r h
    · exact hc r h
  · split at h
    · exact hr r (List.mem_filter.1 h).1
    · split at h
      · obtain ⟨q, hq, rfl⟩ := List.mem_map.1 h
        rw [updR_len]
        exact hr q hq
      · exact hr r h
/-- How many rows a batch brings. -/
def broughtL (l : List ChangeD) : Nat := (l.map fun c => c.rows.length).sum
theorem doR_len : ∀ (l : List ChangeD) (rows : List (List CellD)), (doR rows l).length ≤ rows.length + broughtL l
  | [], rows => by simp [doR, broughtL]
  | c :: l, rows => by
    have h1 := doR_len l (oneR rows c)
    have h2 := oneR_le (rows := rows) (c := c)
    rw [show doR rows (c :: l) = doR (oneR rows c) l from rfl]
    unfold broughtL at h1 ⊢
    rw [List.map_cons, List.sum_cons]
    omega
theorem doR_row {m : Nat} : ∀ (l : List ChangeD) (rows : List (List CellD)), (∀ r ∈ rows, r.length ≤ m) → (∀ c ∈ l, ∀ r ∈ c.rows, r.length ≤ m) → ∀ r ∈ doR rows l, r.length ≤ m
  | [], rows, hr, _ => hr
  | c :: l, rows, hr, hc => doR_row l (oneR rows c) (oneR_row hr (hc c (List.mem_cons_self ..))) fun d hd => hc d (List.mem_cons_of_mem _ hd)
theorem doN_le : ∀ (l : List ChangeD) (rows : List (List CellD)), doN rows l ≤ l.length * (rows.length + broughtL l)
  | [], rows => by simp [doN]
  | c :: l, rows => by
    have h1 := doN_le l (oneR rows c)
    have h2 := oneN_le rows c
    have h3 := oneR_le (rows := rows) (c := c)
    have hb : broughtL (c :: l) = c.rows.length + broughtL l := by unfold broughtL; rw [List.map_cons, List.sum_cons]
    have h4 : l.length * ((oneR rows c).length + broughtL l) ≤ l.length * (rows.length + broughtL (c :: l)) := Nat.mul_le_mul_left _ (by omega)
    rw [List.length_cons, Nat.succ_mul]
    unfold doN
    omega
theorem f12_loop {β : Type} {k : Nat} {Q : β → Prop} {h0 : AH} {lv : Value} {l : List ChangeD} (B : Changes h0 lv l) (ok : ∀ c ∈ l, ChOk c) (hl : l.length ≤ 1000) (hk : 100010 < k)
    {ke0 : Value → Value → Value → Value → Value → Value → AH → Option β} {kr : Value → Value → Value → AH → Option β} (n : Nat) :
    ∀ {i j N : Nat} {h : AH} {x6 : Value} {rows : List (List CellD)}, i + n = l.length → n < j → Grow h0 h → Rows h x6 rows → (∀ r ∈ rows, r.length ≤ 2 ^ 30) → rows.length + broughtL (l.drop i) ≤ 4096 → N ≤ i * 10000 →
      (∀ h' ov y1 y2 y3, Grow h0 h' → Grow h h' → Rows h' ov (doR rows (l.drop i)) → Tl (ke0 ov (.int .i64 ((N + doN rows (l.drop i) : Nat) : Int)) lv y1 y2 y3 h') Q) →
      Tl (F12_lrlrrr (eInv env (k + 1312)) (k + 1312) j x6 (.int .i64 (N : Int)) lv (.int .i64 l.length) (.int .i64 i) h ke0 kr) Q := by
  induction n with
  | zero =>
    intro i j N h x6 rows hi hj g R hr hs hN hk'
    obtain ⟨j, rfl⟩ : ∃ q, j = q + 1 := ⟨j - 1, by omega⟩
    rw [List.drop_eq_nil_of_le (by omega)] at hk'
    simp only [F12_lrlrrr]
    repeat (first | (with_reducible apply Tl.val; focus (simp (disch := omega) only [coreA, Int.reduceBEq, base_Ws] <;> with_reducible rfl)) | (with_reducible first | refine Tl.brT ?_ | refine Tl.brF ?_ | refine Tl.gd_on ?_ | refine Tl.gd3_on ?_) | ((with_reducible first | apply Tl.brC | apply Tl.gdC | apply Tl.gd3C); focus (simp (disch := omega) only [coreA, Int.reduceBEq, base_Ws] <;> with_reducible rfl)))
    exact hk' _ _ _ _ _ g (Grow.refl _) R
  | succ n ih =>
    intro i j N h x6 rows hi hj g R hr hs hN hk'
    obtain ⟨j, rfl⟩ : ∃ q, j = q + 1 := ⟨j - 1, by omega⟩
    obtain ⟨c, ec⟩ : ∃ x, l[i]? = some x := ⟨_, List.getElem?_eq_getElem (by omega)⟩
    have okc := ok c (List.mem_of_getElem? ec)
    obtain ⟨b, o, rv, pv, iv, tv, hp, hrow, F⟩ := (B.grow g).at_ ec
    obtain ⟨⟨a1, m1, c1, rfl⟩, ⟨a2, m2, c2, rfl⟩, ⟨a3, m3, c3, rfl⟩, ⟨a4, m4, c4, rfl⟩⟩ := F.form
    have e : (i : Int) + 1 = ((i + 1 : Nat) : Int) := by omega
    rw [drop_at ec] at hk' hs
    have hb : broughtL (c :: l.drop (i + 1)) = c.rows.length + broughtL (l.drop (i + 1)) := by unfold broughtL; rw [List.map_cons, List.sum_cons]
    rw [hb] at hs
    have hol := oneR_le (rows := rows) (c := c)
    have hnl := oneN_le rows c
    simp only [F12_lrlrrr]
    repeat (first | (with_reducible apply Tl.val; focus (simp (disch := omega) only [coreA, Int.reduceBEq, base_Ws, hp, hrow] <;> with_reducible rfl)) | (with_reducible first | refine Tl.brT ?_ | refine Tl.brF ?_ | refine Tl.gd_on ?_ | refine Tl.gd3_on ?_) | ((with_reducible first | apply Tl.brC | apply Tl.gdC | apply Tl.gd3C); focus (simp (disch := omega) only [coreA, Int.reduceBEq, base_Ws, hp, hrow] <;> with_reducible rfl)))
    refine Tl.alloc' (Stt.init h) ze39 (by rfl) fun b8 h1 S1 g1 => ?_
    refine Tl.store' S1 0 rfl sz39 rfl rfl (by simp [Value.cells]) fun h2 S2 k2 => ?_
    have S2 : Stt Try.prog h.n h h2 [(b8, .cells (chrow c.kind (.slice a1 m1 c1) (.slice a2 m2 c2) (.slice a3 m3 c3) (.slice a4 m4 c4)) 39 true)] [] := S2
    have r8 : h2.row b8 0 5 = some (chrow c.kind (.slice a1 m1 c1) (.slice a2 m2 c2) (.slice a3 m3 c3) (.slice a4 m4 c4)) := S2.row 0 rfl rfl
    repeat (first | (with_reducible apply Tl.val; focus (simp (disch := omega) only [coreA, Int.reduceBEq, base_Ws, r8] <;> with_reducible rfl)) | (with_reducible first | refine Tl.brT ?_ | refine Tl.brF ?_ | refine Tl.gd_on ?_ | refine Tl.gd3_on ?_) | ((with_reducible first | apply Tl.brC | apply Tl.gdC | apply Tl.gd3C); focus (simp (disch := omega) only [coreA, Int.reduceBEq, base_Ws, r8] <;> with_reducible rfl)))
    refine Tl.bind (f16z (k := k + 12) (R.grow S2.grow) (F.grow S2.grow) okc (by omega) hr (by omega)) ?_
    rintro ⟨_, h3⟩ ⟨ov, rfl, R3, g3⟩
    simp only at R3 g3
    have hlo : ∀ h', pLen Try.prog #[23] ov h' = some (.int .i64 (oneR rows c).length) := fun h' => R3.len
    have e2 : (N : Int) + (oneN rows c : Nat) = ((N + oneN rows c : Nat) : Int) := by omega
    repeat (first | (with_reducible apply Tl.val; focus (simp (disch := omega) only [coreA, Int.reduceBEq, base_Ws, hlo] <;> with_reducible rfl)) | (with_reducible first | refine Tl.brT ?_ | refine Tl.brF ?_ | refine Tl.gd_on ?_ | refine Tl.gd3_on ?_) | ((with_reducible first | apply Tl.brC | apply Tl.gdC | apply Tl.gd3C); focus (simp (disch := omega) only [coreA, Int.reduceBEq, base_Ws, hlo] <;> with_reducible rfl)))
    rw [e, e2]
    have g' := S2.grow.trans g3
    refine ih (by omega) (by omega) (g.trans g') R3 (oneR_row hr okc.row) (by omega) (by omega) fun h' ov' y1 y2 y3 q1 q2 q3 => ?_
    have := hk' h' ov' y1 y2 y3 q1 (g'.trans q2) q3
    rw [show N + doN rows (c :: l.drop (i + 1)) = N + oneN rows c + doN (oneR rows c) (l.drop (i + 1)) by simp only [doN]; omega] at this
    exact this
theorem f12c {k : Nat} {h : AH} {cv rv lv : Value} {C : List ColD} {rows : List (List CellD)} {l : List ChangeD} (CV : Cols h cv C) (hC : C.length ≤ 9223372036854775807) (R : Rows h rv rows) (B : Changes h lv l) (hb : batchOk C l = true) (okc : ∀ c ∈ l, ChC c) (ok : ∀ c ∈ l, ChOk c)
    (hl : l.length ≤ 1000) (hr : ∀ r ∈ rows, r.length ≤ 2 ^ 30) (hs : rows.length + broughtL l ≤ 4096) (hk : 100010 < k) :
    Tl (eInv env (k + 1313) (.func 12) #[] #[cv, rv, lv] h) fun r => ∃ ov, r.1 = .tuple #[ov, .int .i64 (doN rows l), .int .i64 0] ∧ Rows r.2 ov (doR rows l) ∧ Grow h r.2 := by
  rw [F12_call]
  unfold F12
  refine Tl.bind (f10c (k := k) CV hC B hl okc (by omega)) ?_
  rintro ⟨r, h1⟩ ⟨⟨z, er, hz⟩, g1⟩
  simp only at er g1
  subst er
  have q := hz.2 hb
  subst q
  repeat (first | (with_reducible apply Tl.val; focus (simp (disch := omega) only [coreA, Int.reduceBEq, base_Ws] <;> with_reducible rfl)) | (with_reducible first | refine Tl.brT ?_ | refine Tl.brF ?_ | refine Tl.gd_on ?_ | refine Tl.gd3_on ?_) | ((with_reducible first | apply Tl.brC | apply Tl.gdC | apply Tl.gd3C); focus (simp (disch := omega) only [coreA, Int.reduceBEq, base_Ws] <;> with_reducible rfl)))
  refine Tl.bind (f27c (k := k + 1310) (R.grow g1) (by omega) hr (by omega)) ?_
  rintro ⟨x6, h2⟩ ⟨rs, hrs, S2⟩
  simp only at S2
  have R2 : Rows h2 x6 rows := by
    rw [← hrs]
    exact rowsOut (O := []) (by rw [List.append_nil]; exact S2)
  have hv : ∀ h', pLen Try.prog #[24] lv h' = some (.int .i64 l.length) := fun h' => B.len
  repeat (first | (with_reducible apply Tl.val; focus (simp (disch := omega) only [coreA, Int.reduceBEq, base_Ws, hv] <;> with_reducible rfl)) | (with_reducible first | refine Tl.brT ?_ | refine Tl.brF ?_ | refine Tl.gd_on ?_ | refine Tl.gd3_on ?_) | ((with_reducible first | apply Tl.brC | apply Tl.gdC | apply Tl.gd3C); focus (simp (disch := omega) only [coreA, Int.reduceBEq, base_Ws, hv] <;> with_reducible rfl)))
  refine f12_loop (k := k) B ok hl hk l.length (i := 0) (N := 0) (by omega) (by omega) (g1.trans S2.grow) R2 hr (by rw [List.drop_zero]; omega) (by omega) fun h3 ov y1 y2 y3 g3 _ R3 => ?_
  rw [List.drop_zero] at R3
  refine ⟨_, rfl, ov, ?_, R3, g3⟩
  rw [List.drop_zero, Nat.zero_add]
def growsN (l : List ChangeD) : Nat := (l.map fun c => if c.kind = 1 then c.rows.length else 0).sum
theorem f29_loop {β : Type} {inv : Inv} {k : Nat} {Q : β → Prop} {h0 : AH} {lv : Value} {l : List ChangeD} (B : Changes h0 lv l) (ok : ∀ c ∈ l, c.rows.length ≤ 100000) (hl : l.length ≤ 1000)
    {ke0 : Value → Value → Value → Value → Value → AH → Option β} (n : Nat) :
    ∀ {i j N : Nat} {h : AH}, i + n = l.length → n < j → Grow h0 h → N ≤ i * 100000 → (∀ h' y1 y2 y3 y4, Grow h0 h' → Tl (ke0 (.int .i64 ((N + growsN (l.drop i) : Nat) : Int)) y1 y2 y3 y4 h') Q) →
      Tl (F29_lrlrr inv k j (.int .i64 (N : Int)) lv (.int .i64 l.length) (.int .i64 i) h ke0) Q := by
  induction n with
  | zero =>
    intro i j N h hi hj g hN hk
    obtain ⟨j, rfl⟩ : ∃ q, j = q + 1 := ⟨j - 1, by omega⟩
    rw [List.drop_eq_nil_of_le (by omega)] at hk
    simp only [F29_lrlrr]
    repeat (first | (with_reducible apply Tl.val; focus (simp (disch := omega) only [coreA, Int.reduceBEq, base_Ws] <;> with_reducible rfl)) | (with_reducible first | refine Tl.brT ?_ | refine Tl.brF ?_ | refine Tl.gd_on ?_ | refine Tl.gd3_on ?_) | ((with_reducible first | apply Tl.brC | apply Tl.gdC | apply Tl.gd3C); focus (simp (disch := omega) only [coreA, Int.reduceBEq, base_Ws] <;> with_reducible rfl)))
    exact hk _ _ _ _ _ g
  | succ n ih =>
    intro i j N h hi hj g hN hk
    obtain ⟨j, rfl⟩ : ∃ q, j = q + 1 := ⟨j - 1, by omega⟩
    obtain ⟨c, ec⟩ : ∃ x, l[i]? = some x := ⟨_, List.getElem?_eq_getElem (by omega)⟩
    have okc := ok c (List.mem_of_getElem? ec)
    obtain ⟨b, o, rv, pv, iv, tv, hp, hrow, F⟩ := (B.grow g).at_ ec
    obtain ⟨⟨a1, m1, c1, rfl⟩, ⟨a2, m2, c2, rfl⟩, ⟨a3, m3, c3, rfl⟩, ⟨a4, m4, c4, rfl⟩⟩ := F.form
    have e : (i : Int) + 1 = ((i + 1 : Nat) : Int) := by omega
    rw [drop_at ec] at hk
    have hg : growsN (c :: l.drop (i + 1)) = (if c.kind = 1 then c.rows.length else 0) + growsN (l.drop (i + 1)) := by unfold growsN; rw [List.map_cons, List.sum_cons]
    rw [hg] at hk
    have hl1 : ∀ h', pLen Try.prog #[23] (.slice a1 m1 c1) h' = some (.int .i64 c.rows.length) := fun h' => F.1.len
    simp only [F29_lrlrr, F29_lrrllrlrr]
    repeat (first | (with_reducible apply Tl.val; focus (simp (disch := omega) only [coreA, Int.reduceBEq, base_Ws, hp, hrow] <;> with_reducible rfl)) | (with_reducible first | refine Tl.brT ?_ | refine Tl.brF ?_ | refine Tl.gd_on ?_ | refine Tl.gd3_on ?_) | ((with_reducible first | apply Tl.brC | apply Tl.gdC | apply Tl.gd3C); focus (simp (disch := omega) only [coreA, Int.reduceBEq, base_Ws, hp, hrow] <;> with_reducible rfl)))
    refine Tl.alloc' (Stt.init h) ze39 (by rfl) fun b8 h1 S1 g1 => ?_
    refine Tl.store' S1 0 rfl sz39 rfl rfl (by simp [Value.cells]) fun h2 S2 k2 => ?_
    have S2 : Stt Try.prog h.n h h2 [(b8, .cells (chrow c.kind (.slice a1 m1 c1) (.slice a2 m2 c2) (.slice a3 m3 c3) (.slice a4 m4 c4)) 39 true)] [] := S2
    have d0 : h2.cell b8 0 = some (.int .i64 c.kind) := S2.cell 0 rfl rfl
    have d1 : h2.cell b8 1 = some (.slice a1 m1 c1) := S2.cell 0 rfl rfl
    by_cases k1 : c.kind = 1
    · rw [if_pos k1] at hk
      have e2 : (N : Int) + (c.rows.length : Nat) = ((N + c.rows.length : Nat) : Int) := by omega
      repeat (first | (with_reducible apply Tl.val; focus (simp (disch := omega) only [coreA, Int.reduceBEq, base_Ws, d0, d1, hl1] <;> with_reducible rfl)) | (with_reducible first | refine Tl.brT ?_ | refine Tl.brF ?_ | refine Tl.gd_on ?_ | refine Tl.gd3_on ?_) | ((with_reducible first | apply Tl.brC | apply Tl.gdC | apply Tl.gd3C); focus (simp (disch := omega) only [coreA, Int.reduceBEq, base_Ws, d0, d1, hl1] <;> with_reducible rfl)))
      rw [e, e2]
      refine ih (by omega) (by omega) (g.trans S2.grow) (by omega) fun h' y1 y2 y3 y4 g' => ?_
      rw [Nat.add_assoc]
      exact hk h' _ _ _ _ g'
    · rw [if_neg k1, Nat.zero_add] at hk
      repeat (first | (with_reducible apply Tl.val; focus (simp (disch := omega) only [coreA, Int.reduceBEq, base_Ws, d0] <;> with_reducible rfl)) | (with_reducible first | refine Tl.brT ?_ | refine Tl.brF ?_ | refine Tl.gd_on ?_ | refine Tl.gd3_on ?_) | ((with_reducible first | apply Tl.brC | apply Tl.gdC | apply Tl.gd3C); focus (simp (disch := omega) only [coreA, Int.reduceBEq, base_Ws, d0] <;> with_reducible rfl)))
      rw [e]
      exact ih (N := N) (by omega) (by omega) (g.trans S2.grow) (Nat.le_trans hN (Nat.mul_le_mul_right _ (Nat.le_succ i))) hk
theorem f29c {k : Nat} {h : AH} {lv : Value} {l : List ChangeD} (B : Changes h lv l) (ok : ∀ c ∈ l, c.rows.length ≤ 100000) (hl : l.length ≤ 1000) (hk : l.length < k) :
    Tl (eInv env (k + 1) (.func 29) #[] #[lv] h) fun r => r.1 = .int .i64 (growsN l) ∧ Grow h r.2 := by
  rw [F29_call]
  unfold F29
  have hv : ∀ h', pLen Try.prog #[24] lv h' = some (.int .i64 l.length) := fun h' => B.len
  repeat (first | (with_reducible apply Tl.val; focus (simp (disch := omega) only [coreA, Int.reduceBEq, base_Ws, hv] <;> with_reducible rfl)) | (with_reducible first | refine Tl.brT ?_ | refine Tl.brF ?_ | refine Tl.gd_on ?_ | refine Tl.gd3_on ?_) | ((with_reducible first | apply Tl.brC | apply Tl.gdC | apply Tl.gd3C); focus (simp (disch := omega) only [coreA, Int.reduceBEq, base_Ws, hv] <;> with_reducible rfl)))
  refine f29_loop B ok hl l.length (i := 0) (N := 0) (by omega) hk (Grow.refl _) (by omega) fun h' y1 y2 y3 y4 g => ⟨_, rfl, ?_, g⟩
  rw [List.drop_zero, Nat.zero_add]
end Go.Proofs.Ytjmfokglckaneaa.Sh
