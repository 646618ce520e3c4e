/- Changes: what 'batch.One' makes of rows. -/
import Derived.Test.YtjmfokglckaneaaSzVr
import Derived.Test.YtjmfokglckaneaaSzVd
set_option linter.unusedVariables false
set_option linter.unusedSimpArgs false
set_option maxRecDepth 100000
namespace Go.Proofs.Ytjmfokglckaneaa.Sh
open Go Go.RowKit Go.Proofs.Ev
theorem base_Vs : type_of% (And.intro @ld3 (And.intro @ld36 (And.intro @ld37 (And.intro @ld45 (And.intro @ld23 (And.intro @ld35 (And.intro @ld39 (And.intro @fa39_0 (And.intro @fa39_1 (And.intro @fa39_2 (And.intro @fa39_3 (And.intro @fa39_4 (@Nat.add_zero))))))))))))) := And.intro @ld3 (And.intro @ld36 (And.intro @ld37 (And.intro @ld45 (And.intro @ld23 (And.intro @ld35 (And.intro @ld39 (And.intro @fa39_0 (And.intro @fa39_1 (And.intro @fa39_2 (And.intro @fa39_3 (And.intro @fa39_4 (@Nat.add_zero))))))))))))
/-- A change. -/
structure ChangeD where
  kind : Int
  rows : List (List CellD)
  pred : List NodeD
  cols : List Int
  to : List CellD
def chrow (kd : Int) (rv pv cv tv : Value) : List Value := [.int .i64 kd, rv, pv, cv, tv]
def ChangeF (h : AH) (rv pv cv tv : Value) (c : ChangeD) : Prop := Rows h rv c.rows ∧ Preds h pv c.pred ∧ IntsZ h cv c.cols ∧ Cells h tv c.to
def ChangeR (h : AH) (r : List Value) (c : ChangeD) : Prop := ∃ rv pv cv tv, r = chrow c.kind rv pv cv tv ∧ ChangeF h rv pv cv tv c
theorem ChangeF.grow {h h' : AH} {rv pv cv tv : Value} {c : ChangeD} (S : ChangeF h rv pv cv tv c) (g : Grow h h') : ChangeF h' rv pv cv tv c := ⟨S.1.grow g, S.2.1.grow g, S.2.2.1.grow g, S.2.2.2.grow g⟩
theorem ChangeR.grow {h h' : AH} {r : List Value} {c : ChangeD} (S : ChangeR h r c) (g : Grow h h') : ChangeR h' r c := by
  obtain ⟨rv, pv, cv, tv, e, F⟩ := S
  exact ⟨rv, pv, cv, tv, e, F.grow g⟩
/-- A row with cells put into columns. -/
def setL : List CellD → List Int → List CellD → List CellD
  | row, [], _ => row
  | row, _ :: _, [] => row
  | row, c :: cs, t :: ts => setL (if 0 ≤ c ∧ c < row.length then row.set c.toNat t else row) cs ts
theorem setL_z (row ts : List CellD) : setL row [] ts = row := by simp [setL]
theorem setL_nil (row : List CellD) (cs : List Int) : setL row cs [] = row := by cases cs <;> simp [setL]
theorem setL_len : ∀ (cs : List Int) (row ts : List CellD), (setL row cs ts).length = row.length
  | [], row, ts => by rw [setL_z]
  | _ :: _, _, [] => by rw [setL_nil]
  | c :: cs, row, t :: ts => by
    unfold setL
    rw [setL_len cs]
    split <;> simp
theorem crow_cells (a : CellD) : (Value.agg (crow a).toArray).cells.toList = crow a := rfl
theorem set_self {α : Type} {l : List α} {m : Nat} {x : α} (hm : m < l.length) : (l.set m x)[m]? = some x := by simp [hm]
theorem f39_loop {β : Type} {inv : Inv} {k : Nat} {Q : β → Prop} {h0 : AH} {b3 : Nat} {L : List (Nat × AO)} {O : List OS} {w rv pv cv tv : Value} {kd : Int} {cols : List Int} {to : List CellD} {m : Nat}
    (I : IntsZ h0 cv cols) (T : Cells h0 tv to) (hcl : cols.length ≤ 2 ^ 40) (htl : to.length ≤ 2 ^ 40) (hm : m < O.length) {ke0 : Value → Value → Value → Value → Value → Value → AH → Option β} (n : Nat) :
    ∀ {i j : Nat} {h : AH} {r : List CellD}, i + n = cols.length → n < j → r.length ≤ 2 ^ 40 → Stt Try.prog h0.n h0 h ((b3, .cells (chrow kd rv pv cv tv) 39 true) :: L) (O.set m (w, 3, r.map crow)) →
      (∀ h' y1 y2 y3, Stt Try.prog h0.n h0 h' ((b3, .cells (chrow kd rv pv cv tv) 39 true) :: L) (O.set m (w, 3, (setL r (cols.drop i) (to.drop i)).map crow)) → Tl (ke0 w (.pointer (some ⟨b3, 0, none⟩)) cv y1 y2 y3 h') Q) →
      Tl (F39_lrr inv k j w (.pointer (some ⟨b3, 0, none⟩)) cv (.int .i64 cols.length) (.int .i64 i) h ke0) Q := by
  induction n with
  | zero =>
    intro i j h r hi hj hr S hk
    obtain ⟨j, rfl⟩ : ∃ q, j = q + 1 := ⟨j - 1, by omega⟩
    simp only [F39_lrr]
    repeat (first | (with_reducible apply Tl.val; focus (simp (disch := omega) only [coreA, Int.reduceBEq, base_Vs] <;> with_reducible rfl)) | (with_reducible first | refine Tl.brT ?_ | refine Tl.brF ?_ | refine Tl.gd_on ?_ | refine Tl.gd3_on ?_) | ((with_reducible first | apply Tl.brC | apply Tl.gdC | apply Tl.gd3C); focus (simp (disch := omega) only [coreA, Int.reduceBEq, base_Vs] <;> with_reducible rfl)))
    refine hk _ _ _ _ ?_
    rw [List.drop_eq_nil_of_le (by omega), setL_z]
    exact S
  | succ n ih =>
    intro i j h r hi hj hr S hk
    obtain ⟨j, rfl⟩ : ∃ q, j = q + 1 := ⟨j - 1, by omega⟩
    obtain ⟨x, ex⟩ : ∃ x, cols[i]? = some x := ⟨_, List.getElem?_eq_getElem (by omega)⟩
    obtain ⟨b, o, hp, hc⟩ := (I.grow S.grow).at_ ex
    have e : (i : Int) + 1 = ((i + 1 : Nat) : Int) := by omega
    have c4 : h.cell b3 4 = some tv := S.cell 0 rfl rfl
    have tl : ∀ h', pLen Try.prog #[37] tv h' = some (.int .i64 to.length) := fun h' => T.len
    have rl : ∀ h', pLen Try.prog #[37] w h' = some (.int .i64 r.length) := fun h' => (ownRow S (List.mem_of_getElem? (set_self hm))).len
    simp only [F39_lrr, F39_lrrllrr]
    rw [drop_at ex] at hk
    by_cases q1 : i < to.length
    · obtain ⟨t, et⟩ : ∃ t, to[i]? = some t := ⟨_, List.getElem?_eq_getElem (by omega)⟩
      rw [drop_at et] at hk
      unfold setL at hk
      by_cases q2 : 0 ≤ x
      · by_cases q3 : x < r.length
        · rw [if_pos ⟨q2, q3⟩] at hk
          obtain ⟨b2, o2, hp2, hrow⟩ := (T.grow S.grow).at_ et
          obtain ⟨z, rfl⟩ : ∃ z : Nat, x = (z : Int) := ⟨x.toNat, by omega⟩
          obtain ⟨b4, hb4, hx⟩ := S.idx m (set_self hm) (t := 37) (kd := .i64) (j := z) (by simp; omega) u37 sz45
          repeat (first | (with_reducible apply Tl.val; focus (simp (disch := omega) only [coreA, Int.reduceBEq, base_Vs, hp, hc, c4, tl, rl, hp2, hrow, hx] <;> with_reducible rfl)) | (with_reducible first | refine Tl.brT ?_ | refine Tl.brF ?_ | refine Tl.gd_on ?_ | refine Tl.gd3_on ?_) | ((with_reducible first | apply Tl.brC | apply Tl.gdC | apply Tl.gd3C); focus (simp (disch := omega) only [coreA, Int.reduceBEq, base_Vs, hp, hc, c4, tl, rl, hp2, hrow, hx] <;> with_reducible rfl)))
          refine Tl.setAt S m (set_self hm) hb4 (by simp; omega) rfl sz45 rfl fun h' S2 => ?_
          rw [List.set_set, crow_cells, ← List.map_set] at S2
          repeat (first | (with_reducible apply Tl.val; focus (simp (disch := omega) only [coreA, Int.reduceBEq, base_Vs] <;> with_reducible rfl)) | (with_reducible first | refine Tl.brT ?_ | refine Tl.brF ?_ | refine Tl.gd_on ?_ | refine Tl.gd3_on ?_) | ((with_reducible first | apply Tl.brC | apply Tl.gdC | apply Tl.gd3C); focus (simp (disch := omega) only [coreA, Int.reduceBEq, base_Vs] <;> with_reducible rfl)))
          rw [e]
          exact ih (by omega) (by omega) (by simpa using hr) S2 (by simpa using hk)
        · rw [if_neg (by omega)] at hk
          repeat (first | (with_reducible apply Tl.val; focus (simp (disch := omega) only [coreA, Int.reduceBEq, base_Vs, hp, hc, c4, tl, rl] <;> with_reducible rfl)) | (with_reducible first | refine Tl.brT ?_ | refine Tl.brF ?_ | refine Tl.gd_on ?_ | refine Tl.gd3_on ?_) | ((with_reducible first | apply Tl.brC | apply Tl.gdC | apply Tl.gd3C); focus (simp (disch := omega) only [coreA, Int.reduceBEq, base_Vs, hp, hc, c4, tl, rl] <;> with_reducible rfl)))
          rw [e]
          exact ih (by omega) (by omega) hr S hk
      · rw [if_neg (by omega)] at hk
        repeat (first | (with_reducible apply Tl.val; focus (simp (disch := omega) only [coreA, Int.reduceBEq, base_Vs, hp, hc, c4, tl, rl] <;> with_reducible rfl)) | (with_reducible first | refine Tl.brT ?_ | refine Tl.brF ?_ | refine Tl.gd_on ?_ | refine Tl.gd3_on ?_) | ((with_reducible first | apply Tl.brC | apply Tl.gdC | apply Tl.gd3C); focus (simp (disch := omega) only [coreA, Int.reduceBEq, base_Vs, hp, hc, c4, tl, rl] <;> with_reducible rfl)))
        rw [e]
        exact ih (by omega) (by omega) hr S hk
    · rw [List.drop_eq_nil_of_le (by omega : to.length ≤ i), setL_nil] at hk
      repeat (first | (with_reducible apply Tl.val; focus (simp (disch := omega) only [coreA, Int.reduceBEq, base_Vs, hp, hc, c4, tl, rl] <;> with_reducible rfl)) | (with_reducible first | refine Tl.brT ?_ | refine Tl.brF ?_ | refine Tl.gd_on ?_ | refine Tl.gd3_on ?_) | ((with_reducible first | apply Tl.brC | apply Tl.gdC | apply Tl.gd3C); focus (simp (disch := omega) only [coreA, Int.reduceBEq, base_Vs, hp, hc, c4, tl, rl] <;> with_reducible rfl)))
      rw [e]
      refine ih (by omega) (by omega) hr S fun h' y1 y2 y3 S' => hk h' y1 y2 y3 ?_
      rw [List.drop_eq_nil_of_le (by omega : to.length ≤ i + 1), setL_nil] at S'
      exact S'
theorem f39c {k : Nat} {h0 h : AH} {L : List (Nat × AO)} {O : List OS} {w rv pv cv tv : Value} {c : ChangeD} {m : Nat} {r : List CellD} (S : Stt Try.prog h0.n h0 h L O) (hi : O[m]? = some (w, 3, r.map crow)) (C : ChangeF h0 rv pv cv tv c)
    (hcl : c.cols.length ≤ 2 ^ 40) (htl : c.to.length ≤ 2 ^ 40) (hr : r.length ≤ 2 ^ 40) (hk : c.cols.length < k) :
    Tl (eInv env (k + 1) (.func 39) #[] #[w, .agg (chrow c.kind rv pv cv tv).toArray] h) fun q => Stt Try.prog h0.n h0 q.2 L (O.set m (w, 3, (setL r c.cols c.to).map crow)) := by
  rw [F39_call]
  unfold F39
  obtain ⟨_, _, I, T⟩ := C
  have hm := (List.getElem?_eq_some_iff.1 hi).1
  have e0 : O = O.set m (w, 3, r.map crow) := by
    refine List.ext_getElem? fun j => ?_
    by_cases q : m = j
    · subst q; rw [set_self hm, hi]
    · rw [List.getElem?_set_ne q]
  refine Tl.box' S rfl (by rw [sz39]; rfl) fun b3 h1 S1 _ => ?_
  have S1 : Stt Try.prog h0.n h0 h1 ((b3, .cells (chrow c.kind rv pv cv tv) 39 true) :: L) O := S1
  have c3 : h1.cell b3 3 = some cv := S1.cell 0 rfl rfl
  have hv : ∀ h', pLen Try.prog #[36] cv h' = some (.int .i64 c.cols.length) := fun h' => I.len
  repeat (first | (with_reducible apply Tl.val; focus (simp (disch := omega) only [coreA, Int.reduceBEq, base_Vs, c3, hv] <;> with_reducible rfl)) | (with_reducible first | refine Tl.brT ?_ | refine Tl.brF ?_ | refine Tl.gd_on ?_ | refine Tl.gd3_on ?_) | ((with_reducible first | apply Tl.brC | apply Tl.gdC | apply Tl.gd3C); focus (simp (disch := omega) only [coreA, Int.reduceBEq, base_Vs, c3, hv] <;> with_reducible rfl)))
  refine f39_loop I T hcl htl hm c.cols.length (i := 0) (by omega) hk hr (by rw [← e0]; exact S1) fun h' y1 y2 y3 S2 => ?_
  exact ⟨_, rfl, S2.drop⟩
end Go.Proofs.Ytjmfokglckaneaa.Sh
