/- Which rows fit, what is light; rows set to zero. -/
import Derived.Test.YtjmfokglckaneaaSzVu
import Derived.Test.YtjmfokglckaneaaSzVv
import Derived.Test.YtjmfokglckaneaaSzVw
import Derived.Test.YtjmfokglckaneaaSzVi
set_option linter.unusedVariables false
set_option linter.unusedSimpArgs false
set_option maxRecDepth 100000
namespace Go.Proofs.Ytjmfokglckaneaa.Sh
open Go Go.RowKit Go.Proofs.Ev
theorem base_B1 : type_of% (And.intro @ld3 (And.intro @ld37 (And.intro @ld45 (And.intro @ld23 (@Nat.add_zero))))) := And.intro @ld3 (And.intro @ld37 (And.intro @ld45 (And.intro @ld23 (@Nat.add_zero))))
def fitRs (cols : List ColD) (rows : List (List CellD)) : Bool := rows.all (rowOk cols)
theorem f11_loop {β : Type} {k : Nat} {Q : β → Prop} {h0 : AH} {cv rv : Value} {cols : List ColD} {rows : List (List CellD)} (C : Cols h0 cv cols) (R : Rows h0 rv rows) (hl : cols.length ≤ 9223372036854775807) (hl2 : rows.length ≤ 2 ^ 62) (hr : ∀ r ∈ rows, r.length ≤ 9223372036854775807)
    {ke0 : Value → Value → Value → Value → AH → Option β} {kr : Value → AH → Option β} (n : Nat) :
    ∀ {i j : Nat} {h : AH}, i + n = rows.length → n < j → Grow h0 h → ((rows.drop i).all (rowOk cols) = true → ∀ y1 y2 h', Grow h0 h' → Tl (ke0 cv rv y1 y2 h') Q) → ((rows.drop i).all (rowOk cols) = false → ∀ h', Grow h0 h' → Tl (kr (.bool false) h') Q) →
      Tl (F11_lrlr (eInv env (k + 300)) (k + 300) j cv rv (.int .i64 i) h ke0 kr) Q := by
  have hv : ∀ h', pLen Try.prog #[23] rv h' = some (.int .i64 rows.length) := fun h' => R.len
  induction n with
  | zero =>
    intro i j h hi hj g hk hf
    obtain ⟨j, rfl⟩ : ∃ q, j = q + 1 := ⟨j - 1, by omega⟩
    simp only [F11_lrlr]
    repeat (first | (with_reducible apply Tl.val; focus (simp (disch := omega) only [coreA, Int.reduceBEq, base_B1, hv] <;> with_reducible rfl)) | (with_reducible first | refine Tl.brT ?_ | refine Tl.brF ?_ | refine Tl.gd_on ?_ | refine Tl.gd3_on ?_) | ((with_reducible first | apply Tl.brC | apply Tl.gdC | apply Tl.gd3C); focus (simp (disch := omega) only [coreA, Int.reduceBEq, base_B1, hv] <;> with_reducible rfl)))
    exact hk (by rw [List.drop_eq_nil_of_le (by omega)]; rfl) _ _ _ g
  | succ n ih =>
    intro i j h hi hj g hk hf
    obtain ⟨j, rfl⟩ : ∃ q, j = q + 1 := ⟨j - 1, by omega⟩
    obtain ⟨x, ex⟩ : ∃ x, rows[i]? = some x := ⟨_, List.getElem?_eq_getElem (by omega)⟩
    obtain ⟨b, o, w, hp, hc, X⟩ := (R.grow g).at_ ex
    have e : (i : Int) + 1 = ((i + 1 : Nat) : Int) := by omega
    rw [drop_at ex, List.all_cons] at hk hf
    simp only [F11_lrlr]
    repeat (first | (with_reducible apply Tl.val; focus (simp (disch := omega) only [coreA, Int.reduceBEq, base_B1, hv, hp, hc] <;> with_reducible rfl)) | (with_reducible first | refine Tl.brT ?_ | refine Tl.brF ?_ | refine Tl.gd_on ?_ | refine Tl.gd3_on ?_) | ((with_reducible first | apply Tl.brC | apply Tl.gdC | apply Tl.gd3C); focus (simp (disch := omega) only [coreA, Int.reduceBEq, base_B1, hv, hp, hc] <;> with_reducible rfl)))
    refine Tl.bind (f35c (k := k) (C.grow g) X hl (hr x (List.mem_of_getElem? ex))) ?_
    rintro ⟨r, h1⟩ ⟨⟨z, er, hz⟩, g1⟩
    simp only at er g1
    subst er
    by_cases q : z = 0
    · rw [hz.1 q, Bool.true_and] at hk hf
      repeat (first | (with_reducible apply Tl.val; focus (simp (disch := omega) only [coreA, Int.reduceBEq, base_B1] <;> with_reducible rfl)) | (with_reducible first | refine Tl.brT ?_ | refine Tl.brF ?_ | refine Tl.gd_on ?_ | refine Tl.gd3_on ?_) | ((with_reducible first | apply Tl.brC | apply Tl.gdC | apply Tl.gd3C); focus (simp (disch := omega) only [coreA, Int.reduceBEq, base_B1] <;> with_reducible rfl)))
      rw [e]
      exact ih (by omega) (by omega) (g.trans g1) hk hf
    · have : rowOk cols x = false := by
        cases hx : rowOk cols x with
        | false => rfl
        | true => exact absurd (hz.2 hx) q
      rw [this, Bool.false_and] at hf
      repeat (first | (with_reducible apply Tl.val; focus (simp (disch := omega) only [coreA, Int.reduceBEq, base_B1] <;> with_reducible rfl)) | (with_reducible first | refine Tl.brT ?_ | refine Tl.brF ?_ | refine Tl.gd_on ?_ | refine Tl.gd3_on ?_) | ((with_reducible first | apply Tl.brC | apply Tl.gdC | apply Tl.gd3C); focus (simp (disch := omega) only [coreA, Int.reduceBEq, base_B1] <;> with_reducible rfl)))
      exact hf rfl _ (g.trans g1)
theorem f11c {k : Nat} {h : AH} {cv rv : Value} {cols : List ColD} {rows : List (List CellD)} (C : Cols h cv cols) (R : Rows h rv rows) (hl : cols.length ≤ 9223372036854775807) (hl2 : rows.length ≤ 2 ^ 62) (hr : ∀ r ∈ rows, r.length ≤ 9223372036854775807) (hk : rows.length < k) :
    Tl (eInv env (k + 301) (.func 11) #[] #[cv, rv] h) fun r => r.1 = .bool (fitRs cols rows) ∧ Grow h r.2 := by
  rw [F11_call]
  unfold F11 fitRs
  refine f11_loop C R hl hl2 hr rows.length (i := 0) (by omega) (by omega) (Grow.refl _) (fun q y1 y2 h' g => ⟨_, rfl, ?_, g⟩) fun q h' g => ⟨_, rfl, ?_, g⟩
  · rw [List.drop_zero] at q
    rw [q]
  · rw [List.drop_zero] at q
    rw [q]
def lightL (cols : List ColD) (rows : List (List CellD)) (l : List ChangeD) : Bool := lightC cols && (lightRs rows 60 && lightB l 40)
theorem f9e {k : Nat} {h : AH} {cv rv lv : Value} {cols : List ColD} {rows : List (List CellD)} {l : List ChangeD} (C : Cols h cv cols) (R : Rows h rv rows) (B : Changes h lv l) (hl : cols.length ≤ 9223372036854775807 ∧ cols.length < k) (hl2 : rows.length ≤ 9223372036854775807 ∧ rows.length < k)
    (hr : ∀ r ∈ rows, r.length ≤ 9223372036854775807 ∧ r.length < k) (hl3 : l.length < 9223372036854775808 ∧ l.length < k) (hs : ∀ c ∈ l, ChS 9223372036854775808 c ∧ ChS k c) :
    eInv env (k + 4) (.func 9) #[] #[cv, rv, lv] h = some (.bool (lightL cols rows l), h) := by
  rw [F9_call]
  have p1 := f30c (k := k + 2) C hl.1 (by omega)
  have p2 := f31c (k := k + 1) 60 R hl2.1 (fun r hx => ⟨(hr r hx).1, by have := (hr r hx).2; omega⟩) (by omega)
  have p3 := f32e (k := k) 40 B hl3.1 hs hl3.2
  have T : Tl (F9 (eInv env (k + 3)) (k + 3) cv rv lv h) fun r => r = (.bool (lightL cols rows l), h) := by
    unfold F9 lightL
    cases q1 : lightC cols with
    | false =>
      rw [q1] at p1
      repeat (first | (with_reducible apply Tl.val; focus (simp (disch := omega) only [coreA, Int.reduceBEq, base_B1, p1] <;> with_reducible rfl)) | (with_reducible first | refine Tl.brT ?_ | refine Tl.brF ?_ | refine Tl.gd_on ?_ | refine Tl.gd3_on ?_) | ((with_reducible first | apply Tl.brC | apply Tl.gdC | apply Tl.gd3C); focus (simp (disch := omega) only [coreA, Int.reduceBEq, base_B1, p1] <;> with_reducible rfl)))
      exact ⟨_, rfl, rfl⟩
    | true =>
    rw [q1] at p1
    cases q2 : lightRs rows 60 with
    | false =>
      rw [q2] at p2
      repeat (first | (with_reducible apply Tl.val; focus (simp (disch := omega) only [coreA, Int.reduceBEq, base_B1, p1, p2] <;> with_reducible rfl)) | (with_reducible first | refine Tl.brT ?_ | refine Tl.brF ?_ | refine Tl.gd_on ?_ | refine Tl.gd3_on ?_) | ((with_reducible first | apply Tl.brC | apply Tl.gdC | apply Tl.gd3C); focus (simp (disch := omega) only [coreA, Int.reduceBEq, base_B1, p1, p2] <;> with_reducible rfl)))
      exact ⟨_, rfl, rfl⟩
    | true =>
      rw [q2] at p2
      repeat (first | (with_reducible apply Tl.val; focus (simp (disch := omega) only [coreA, Int.reduceBEq, base_B1, p1, p2, p3] <;> with_reducible rfl)) | (with_reducible first | refine Tl.brT ?_ | refine Tl.brF ?_ | refine Tl.gd_on ?_ | refine Tl.gd3_on ?_) | ((with_reducible first | apply Tl.brC | apply Tl.gdC | apply Tl.gd3C); focus (simp (disch := omega) only [coreA, Int.reduceBEq, base_B1, p1, p2, p3] <;> with_reducible rfl)))
      exact ⟨_, rfl, rfl⟩
  obtain ⟨r, h1, h2⟩ := T
  rw [h1, h2]
def zeroQ (q : Value × List CellD) : Value × List CellD := (q.1, q.2.map fun _ => cellZ)
theorem f5_in {β : Type} {inv : Inv} {k : Nat} {Q : β → Prop} {n0 : Nat} {h0 : AH} {L : List (Nat × AO)} {O : List OS} {x1 x8 x9 x10 x11 x12 ov x15 w : Value} {i p : Nat} {r : List CellD}
    (hov : ∀ h', Mem h' L → ∃ b o, pIndexAddr Try.prog 23 ov (.int .i64 i) = some (.pointer (some ⟨b, o, none⟩)) ∧ h'.cell b o = some w) (hp : p < O.length) (hl : r.length ≤ 2 ^ 40)
    {ke2 : Value → Value → Value → Value → Value → Value → Value → Value → Value → Value → Value → AH → Option β} (n : Nat) :
    ∀ {m j : Nat} {h : AH}, m + n = r.length → n < j → Stt Try.prog n0 h0 h L (O.set p (w, 3, (List.replicate m cellZ ++ r.drop m).map crow)) →
      (∀ h' y1 y2, Stt Try.prog n0 h0 h' L (O.set p (w, 3, (r.map fun _ => cellZ).map crow)) → Tl (ke2 x1 x8 x9 x10 x11 x12 ov x15 (.int .i64 i) y1 y2 h') Q) →
      Tl (F5_lrllrllrlrrrrrrrrr inv k j x1 x8 x9 x10 x11 x12 ov x15 (.int .i64 i) (.int .i64 m) h ke2) Q := by
  induction n with
  | zero =>
    intro m j h hm hj S hk
    obtain ⟨j, rfl⟩ : ∃ q, j = q + 1 := ⟨j - 1, by omega⟩
    obtain ⟨b, o, h1, h2⟩ := hov h S.sta.mem
    have hv : ∀ h', pLen Try.prog #[37] w h' = some (.int .i64 r.length) := fun h' => by
      have := (ownRow S (List.mem_of_getElem? (set_self hp))).len (h' := h')
      rw [this]
      simp
      omega
    simp only [F5_lrllrllrlrrrrrrrrr]
    repeat (first | (with_reducible apply Tl.val; focus (simp (disch := omega) only [coreA, Int.reduceBEq, base_B1, h1, h2, hv] <;> with_reducible rfl)) | (with_reducible first | refine Tl.brT ?_ | refine Tl.brF ?_ | refine Tl.gd_on ?_ | refine Tl.gd3_on ?_) | ((with_reducible first | apply Tl.brC | apply Tl.gdC | apply Tl.gd3C); focus (simp (disch := omega) only [coreA, Int.reduceBEq, base_B1, h1, h2, hv] <;> with_reducible rfl)))
    refine hk _ _ _ ?_
    rw [List.drop_eq_nil_of_le (by omega), List.append_nil] at S
    obtain rfl : m = r.length := by omega
    have : (r.map fun _ => cellZ) = List.replicate r.length cellZ := by rw [List.map_const']
    rw [this]
    exact S
  | succ n ih =>
    intro m j h hm hj S hk
    obtain ⟨j, rfl⟩ : ∃ q, j = q + 1 := ⟨j - 1, by omega⟩
    obtain ⟨b, o, h1, h2⟩ := hov h S.sta.mem
    have hv : ∀ h', pLen Try.prog #[37] w h' = some (.int .i64 r.length) := fun h' => by
      have := (ownRow S (List.mem_of_getElem? (set_self hp))).len (h' := h')
      rw [this]
      simp
      omega
    obtain ⟨b4, hb4, hx⟩ := S.idx p (set_self hp) (t := 37) (kd := .i64) (j := m) (by simp; omega) u37 sz45
    have e : (m : Int) + 1 = ((m + 1 : Nat) : Int) := by omega
    obtain ⟨x, ex⟩ : ∃ x, r[m]? = some x := ⟨_, List.getElem?_eq_getElem (by omega)⟩
    simp only [F5_lrllrllrlrrrrrrrrr]
    repeat (first | (with_reducible apply Tl.val; focus (simp (disch := omega) only [coreA, Int.reduceBEq, base_B1, h1, h2, hv, hx, bdC0] <;> with_reducible rfl)) | (with_reducible first | refine Tl.brT ?_ | refine Tl.brF ?_ | refine Tl.gd_on ?_ | refine Tl.gd3_on ?_) | ((with_reducible first | apply Tl.brC | apply Tl.gdC | apply Tl.gd3C); focus (simp (disch := omega) only [coreA, Int.reduceBEq, base_B1, h1, h2, hv, hx, bdC0] <;> with_reducible rfl)))
    refine Tl.setAt S p (set_self hp) hb4 (by simp; omega) rfl sz45 rfl fun h' S2 => ?_
    have S2 : Stt Try.prog n0 h0 h' L (O.set p (w, 3, (List.replicate (m + 1) cellZ ++ r.drop (m + 1)).map crow)) := by
      have h5 : cellZ.v.cells.toList = crow cellZ := rfl
      rw [List.set_set, h5, ← List.map_set] at S2
      have : (List.replicate m cellZ ++ r.drop m).set m cellZ = List.replicate (m + 1) cellZ ++ r.drop (m + 1) := by
        rw [drop_at ex, List.set_append, if_neg (by simp), List.length_replicate, Nat.sub_self, List.set_cons_zero, List.replicate_succ']
        simp
      rwa [this] at S2
    repeat (first | (with_reducible apply Tl.val; focus (simp (disch := omega) only [coreA, Int.reduceBEq, base_B1] <;> with_reducible rfl)) | (with_reducible first | refine Tl.brT ?_ | refine Tl.brF ?_ | refine Tl.gd_on ?_ | refine Tl.gd3_on ?_) | ((with_reducible first | apply Tl.brC | apply Tl.gdC | apply Tl.gd3C); focus (simp (disch := omega) only [coreA, Int.reduceBEq, base_B1] <;> with_reducible rfl)))
    rw [e]
    exact ih (by omega) (by omega) S2 hk
theorem f5_out {β : Type} {inv : Inv} {k : Nat} {Q : β → Prop} {n0 : Nat} {h0 : AH} {L : List (Nat × AO)} {O : List OS} {x1 x8 x9 x10 x11 x12 ov x15 : Value} {rs : RS}
    (hov : ∀ h', Mem h' L → SlV Try.prog h' ov 1 (outs rs)) (hl : rs.length ≤ 2 ^ 40) (hr : ∀ q ∈ rs, q.2.length ≤ 2 ^ 40 ∧ q.2.length < k)
    {ke0 : Value → Value → Value → Value → Value → Value → Value → Value → Value → Value → AH → Option β} (n : Nat) :
    ∀ {i j : Nat} {h : AH}, i + n = rs.length → n < j → Stt Try.prog n0 h0 h L (owns ((rs.take i).map zeroQ ++ rs.drop i) ++ O) →
      (∀ h' y1 y2, Stt Try.prog n0 h0 h' L (owns (rs.map zeroQ) ++ O) → Tl (ke0 x1 x8 x9 x10 x11 x12 ov x15 y1 y2 h') Q) →
      Tl (F5_lrlrrrrrrrrr inv k j x1 x8 x9 x10 x11 x12 ov x15 (.int .i64 i) h ke0) Q := by
  induction n with
  | zero =>
    intro i j h hi hj S hk
    obtain ⟨j, rfl⟩ : ∃ q, j = q + 1 := ⟨j - 1, by omega⟩
    have hv : ∀ h', pLen Try.prog #[23] ov h' = some (.int .i64 rs.length) := fun h' => by
      have := (hov h S.sta.mem).len (h' := h') u23
      rwa [outs_len] at this
    rw [List.drop_eq_nil_of_le (by omega : rs.length ≤ i), List.append_nil, List.take_of_length_le (by omega)] at S
    simp only [F5_lrlrrrrrrrrr]
    repeat (first | (with_reducible apply Tl.val; focus (simp (disch := omega) only [coreA, Int.reduceBEq, base_B1, hv] <;> with_reducible rfl)) | (with_reducible first | refine Tl.brT ?_ | refine Tl.brF ?_ | refine Tl.gd_on ?_ | refine Tl.gd3_on ?_) | ((with_reducible first | apply Tl.brC | apply Tl.gdC | apply Tl.gd3C); focus (simp (disch := omega) only [coreA, Int.reduceBEq, base_B1, hv] <;> with_reducible rfl)))
    exact hk _ _ _ S
  | succ n ih =>
    intro i j h hi hj S hk
    obtain ⟨j, rfl⟩ : ∃ q, j = q + 1 := ⟨j - 1, by omega⟩
    have hv : ∀ h', pLen Try.prog #[23] ov h' = some (.int .i64 rs.length) := fun h' => by
      have := (hov h S.sta.mem).len (h' := h') u23
      rwa [outs_len] at this
    obtain ⟨x, ex⟩ : ∃ x, rs[i]? = some x := ⟨_, List.getElem?_eq_getElem (by omega)⟩
    obtain ⟨m1, m2⟩ := hr x (List.mem_of_getElem? ex)
    obtain ⟨u1, u2⟩ := updAt (g := zeroQ) ex
    have e : (i : Int) + 1 = ((i + 1 : Nat) : Int) := by omega
    have hO : (owns ((rs.take i).map zeroQ ++ rs.drop i) ++ O)[i]? = some (x.1, 3, x.2.map crow) := by
      have hlen : i < (owns ((rs.take i).map zeroQ ++ rs.drop i)).length := by unfold owns; simp; omega
      rw [List.getElem?_append_left hlen]
      unfold owns
      rw [List.getElem?_map, u1]
      rfl
    simp only [F5_lrlrrrrrrrrr]
    repeat (first | (with_reducible apply Tl.val; focus (simp (disch := omega) only [coreA, Int.reduceBEq, base_B1, hv] <;> with_reducible rfl)) | (with_reducible first | refine Tl.brT ?_ | refine Tl.brF ?_ | refine Tl.gd_on ?_ | refine Tl.gd3_on ?_) | ((with_reducible first | apply Tl.brC | apply Tl.gdC | apply Tl.gd3C); focus (simp (disch := omega) only [coreA, Int.reduceBEq, base_B1, hv] <;> with_reducible rfl)))
    refine f5_in (O := owns ((rs.take i).map zeroQ ++ rs.drop i) ++ O) (p := i) (w := x.1) (r := x.2) (fun h' m => ?_) (List.getElem?_eq_some_iff.1 hO).1 m1 x.2.length (m := 0) (by omega) m2 (by
      rw [List.replicate_zero, List.nil_append, List.drop_zero, set_same hO]; exact S) fun h' y1 y2 S2 => ?_
    · exact outer_at (hov h' m) (outs_at ex) u23 sz37
    · repeat (first | (with_reducible apply Tl.val; focus (simp (disch := omega) only [coreA, Int.reduceBEq, base_B1] <;> with_reducible rfl)) | (with_reducible first | refine Tl.brT ?_ | refine Tl.brF ?_ | refine Tl.gd_on ?_ | refine Tl.gd3_on ?_) | ((with_reducible first | apply Tl.brC | apply Tl.gdC | apply Tl.gd3C); focus (simp (disch := omega) only [coreA, Int.reduceBEq, base_B1] <;> with_reducible rfl)))
      rw [e]
      refine ih (by omega) (by omega) ?_ hk
      have hlen : i < (owns ((rs.take i).map zeroQ ++ rs.drop i)).length := by unfold owns; simp; omega
      rw [List.set_append_left _ _ hlen] at S2
      rw [← u2]
      unfold owns at S2 ⊢
      rw [List.map_set]
      exact S2
end Go.Proofs.Ytjmfokglckaneaa.Sh
