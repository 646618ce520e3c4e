/- 'SegmentNulls' comes to true. -/
import Derived.Test.YtghelamfaaakcaaGreatSzS7
set_option linter.unusedVariables false
set_option linter.unusedSimpArgs false
set_option maxRecDepth 100000
namespace Go.Proofs.YtghelamfaaakcaaGreat.Sh
open Go Go.RowKit Go.Proofs.Ev Go.Lib
theorem bzS8 : type_of% (And.intro @ld3 (And.intro @ld2 (And.intro @ld9 (And.intro @ld4 (And.intro @ld31 (And.intro @fa31_0 (And.intro @fa31_1 (And.intro @fa31_2 (And.intro @aggC (And.intro @ex2_0 (And.intro @ex2_1 (@Nat.add_zero)))))))))))) := And.intro @ld3 (And.intro @ld2 (And.intro @ld9 (And.intro @ld4 (And.intro @ld31 (And.intro @fa31_0 (And.intro @fa31_1 (And.intro @fa31_2 (And.intro @aggC (And.intro @ex2_0 (And.intro @ex2_1 (@Nat.add_zero)))))))))))
theorem f10c {k : Nat} {h : AH} {v : Value} {l : List CellD} (S : Cells h v l) (hl : l.length ≤ 9223372036854775807) (hk : 61 < k) : ∃ b, eInv env (k + 2) (.func 10) #[] #[v] h = some (.bool b, h) ∧ (b = true → l.length ≤ 60) := by
  obtain ⟨b, e, hb⟩ := f27c (k := k) S hl hk
  refine ⟨b, ?_, hb⟩
  have T : Tl (F10 (eInv env (k + 1)) (k + 1) v h) fun r => r = (.bool b, h) := by
    unfold F10
    repeat (first | (with_reducible apply qzV; simp (disch := omega) only [coreA, Int.reduceBEq, bzS8, e] <;> with_reducible rfl) | (with_reducible first | apply qzT | apply qzF | apply qzG | apply qzH) | ((with_reducible first | apply qzB | apply qzC | apply qzD); simp (disch := omega) only [coreA, Int.reduceBEq, bzS8, e] <;> with_reducible rfl))
    exact ⟨_, rfl, rfl⟩
  obtain ⟨r, h1, h2⟩ := T
  rw [F10_call, h1, h2]
theorem bs2C (c : CellD) (h : AH) : pBuildSlice Tryz.prog 22 2 #[(0, c.v), (1, c0.v)] h = some (.slice (some ⟨h.n, 0, none⟩) 2 2, h.alloc (.cells (crow c ++ crow c0) 31 true)) := by kernel_rfl
theorem bs1C (c : CellD) (h : AH) : pBuildSlice Tryz.prog 22 1 #[(0, c.v)] h = some (.slice (some ⟨h.n, 0, none⟩) 1 1, h.alloc (.cells (crow c) 31 true)) := by kernel_rfl
theorem one_crow (c : CellD) : (crow c).all oneCell = true := rfl
theorem f3_loop1 {β : Type} {k : Nat} {Q : β → Prop} {h0 : AH} {v x0 x7 x8 : Value} {l : List CellD} {O : List OS} (A : Cells h0 v l) (hl : l.length ≤ 60) {ke0 : Value → Value → Value → Value → Value → Value → Value → Value → AH → Option β} (n : Nat) :
    ∀ {i j : Nat} {h : AH} {sv mv : Value}, i + n = l.length → n < j → Stt Tryz.prog h0.n h0 h [] ((sv, 3, crows (vals (l.take i))) :: (mv, 3, crows (more (vals (l.take i)))) :: O) →
      (∀ h' sv' mv' y1 y2, Stt Tryz.prog h0.n h0 h' [] ((sv', 3, crows (vals l)) :: (mv', 3, crows (more (vals l))) :: O) → Tl (ke0 x0 v x7 x8 sv' mv' y1 y2 h') Q) →
      Tl (F3_lrlrrrrrr (eInv env k) k j x0 v x7 x8 sv mv (.int .i64 i) h ke0) Q := by
  have hv : ∀ h' : AH, pLen Tryz.prog #[22] v h' = some (.int .i64 l.length) := fun h' => A.len
  induction n with
  | zero =>
    intro i j h sv mv hi hj T hk
    obtain ⟨j, rfl⟩ : ∃ q, j = q + 1 := ⟨j - 1, by omega⟩
    simp only [F3_lrlrrrrrr]
    repeat (first | (with_reducible apply qzV; simp (disch := omega) only [coreA, Int.reduceBEq, bzS8, hv] <;> with_reducible rfl) | (with_reducible first | apply qzT | apply qzF | apply qzG | apply qzH) | ((with_reducible first | apply qzB | apply qzC | apply qzD); simp (disch := omega) only [coreA, Int.reduceBEq, bzS8, hv] <;> with_reducible rfl))
    rw [List.take_of_length_le (by omega)] at T
    exact hk _ _ _ _ _ T
  | succ n ih =>
    intro i j h sv mv hi hj T hk
    obtain ⟨j, rfl⟩ : ∃ q, j = q + 1 := ⟨j - 1, by omega⟩
    obtain ⟨c, hc⟩ : ∃ c, l[i]? = some c := ⟨_, List.getElem?_eq_getElem (by omega)⟩
    obtain ⟨b, o, hx, hr⟩ := (A.grow T.grow).at_ hc
    have k4 : h.cell b o = some (.int .i64 c.k) := Ev.cell_of_row (j := 0) hr (by omega)
    have e : (i : Int) + 1 = ((i + 1 : Nat) : Int) := by omega
    have hvs := vals_step hc
    have hvl : (vals (l.take i)).length ≤ 60 := by have := vals_le (l.take i); rw [List.length_take] at this; omega
    have hml := more_len (vals (l.take i))
    simp only [F3_lrlrrrrrr]
    unfold F3_lrllrlrrrrrr
    by_cases q : c.k = 0
    · rw [if_pos q] at hvs
      repeat (first | (with_reducible apply qzV; simp (disch := omega) only [coreA, Int.reduceBEq, bzS8, hv, hx, k4] <;> with_reducible rfl) | (with_reducible first | apply qzT | apply qzF | apply qzG | apply qzH) | ((with_reducible first | apply qzB | apply qzC | apply qzD); simp (disch := omega) only [coreA, Int.reduceBEq, bzS8, hv, hx, k4] <;> with_reducible rfl))
      rw [e]
      refine ih (by omega) (by omega) ?_ hk
      rw [hvs]
      exact T
    · rw [if_neg q] at hvs
      have T1 := T.alloc (.cells (crow c) 31 true)
      have T2 := T1.alloc (.cells (crow c ++ crow c0) 31 true)
      have r1 := (T1.grow.trans (Grow.refl _))
      have hr1 : (h.alloc (.cells (crow c) 31 true)).row b o 3 = some (crow c) := (Grow.alloc h _).row hr
      have bc0 : pBuild Tryz.prog 31 #[] = some c0.v := bdC0
      repeat (first | (with_reducible apply qzV; simp (disch := omega) only [coreA, Int.reduceBEq, bzS8, hv, hx, k4, hr, bs1C, hr1, bc0, bs2C] <;> with_reducible rfl) | (with_reducible first | apply qzT | apply qzF | apply qzG | apply qzH) | ((with_reducible first | apply qzB | apply qzC | apply qzD); simp (disch := omega) only [coreA, Int.reduceBEq, bzS8, hv, hx, k4, hr, bs1C, hr1, bc0, bs2C] <;> with_reducible rfl))
      have B1 : SlV Tryz.prog _ (.slice (some ⟨h.n, 0, none⟩) 1 1) 3 [crow c] := T2.lit 1 rfl rfl
      refine Tl.append' T2 0 rfl appCs B1 (by simp [one_crow]) (by rw [crows_len]; simp; omega) fun sv' h3 T3 => ?_
      have B2 : SlV Tryz.prog h3 (.slice (some ⟨(h.alloc (.cells (crow c) 31 true)).n, 0, none⟩) 2 2) 3 [crow c, crow c0] :=
        T3.sub 0 (rows := [crow c, crow c0]) (cap := 2) rfl (by simp [crow]) (by simp) (by simp [crow]) (by simp [crow])
      have g3 : h3.row b o 3 = some (crow c) := ((A.grow T3.grow).at_ hc).elim fun b' q => q.elim fun o' q => by
        have := hx.symm.trans q.1
        simp only [Option.some.injEq, Value.pointer.injEq, Addr.mk.injEq] at this
        obtain ⟨e1, e2, _⟩ := this
        subst e1; subst e2
        exact q.2
      refine Tl.append' T3 1 rfl appCs B2 (by simp [one_crow]) (by rw [crows_len]; simp; omega) fun mv' h4 T4 => ?_
      have hr2 : ((h.alloc (.cells (crow c) 31 true)).alloc (.cells (crow c ++ crow c0) 31 true)).row b o 3 = some (crow c) := (Grow.alloc _ _).row hr1
      with_reducible refine Tl.chk ?_ ?_
      · simp only [ld31, hr, hr1, hr2, g3, Option.map_some, aggC, sameO_some, sameC, Bool.and_self, Bool.not_true, Bool.or_true, Bool.true_and, Bool.false_or]
      repeat (first | (with_reducible apply qzV; simp (disch := omega) only [coreA, Int.reduceBEq, bzS8] <;> with_reducible rfl) | (with_reducible first | apply qzT | apply qzF | apply qzG | apply qzH) | ((with_reducible first | apply qzB | apply qzC | apply qzD); simp (disch := omega) only [coreA, Int.reduceBEq, bzS8] <;> with_reducible rfl))
      rw [e]
      refine ih (by omega) (by omega) ?_ hk
      rw [hvs]
      have e1 : crows (vals (l.take i)) ++ [crow c] = crows (vals (l.take i) ++ [c]) := by simp [crows]
      have e2 : crows (more (vals (l.take i))) ++ [crow c, crow c0] = crows (more (vals (l.take i) ++ [c])) := by simp [crows, more]
      rw [← e1, ← e2]
      exact T4.drop.drop
theorem f3_loop2 {β : Type} {k : Nat} {Q : β → Prop} {n0 : Nat} {h0 : AH} {L : List (Nat × AO)} {O : List OS} {x7 x8 x12 x13 x14 x15 x16 wv : Value} {m : Nat} (hm : m ≤ 60) {ke2 : Value → Value → Value → Value → Value → Value → Value → Value → Value → Value → AH → Option β} (n : Nat) :
    ∀ {i j : Nat} {h : AH}, i + n = m → n < j → Stt Tryz.prog n0 h0 h L ((wv, 1, brows (wd i ++ List.replicate (2 * n) false)) :: O) →
      (∀ h' y1 y2, Stt Tryz.prog n0 h0 h' L ((wv, 1, brows (wd m)) :: O) → Tl (ke2 x7 x8 x12 x13 x14 x15 x16 wv y1 y2 h') Q) →
      Tl (F3_lrlrrrrrrrrrrr (eInv env k) k j x7 x8 x12 x13 x14 x15 x16 wv (.int .i64 (2 * (i : Int) + 1)) h ke2) Q := by
  induction n with
  | zero =>
    intro i j h hi hj T hk
    obtain ⟨j, rfl⟩ : ∃ q, j = q + 1 := ⟨j - 1, by omega⟩
    have hw := wd_len i
    have hv : ∀ h' : AH, pLen Tryz.prog #[32] wv h' = some (.int .i64 (2 * i : Nat)) := fun h' => by
      have := Sl1.len (T.sl1 (f := bv) (l := wd i ++ List.replicate (2 * 0) false) 0 rfl) u32 (h' := h')
      simpa [hw] using this
    simp only [F3_lrlrrrrrrrrrrr]
    repeat (first | (with_reducible apply qzV; simp (disch := omega) only [coreA, Int.reduceBEq, bzS8, hv] <;> with_reducible rfl) | (with_reducible first | apply qzT | apply qzF | apply qzG | apply qzH) | ((with_reducible first | apply qzB | apply qzC | apply qzD); simp (disch := omega) only [coreA, Int.reduceBEq, bzS8, hv] <;> with_reducible rfl))
    have : i = m := by omega
    subst this
    refine hk _ _ _ ?_
    simpa using T
  | succ n ih =>
    intro i j h hi hj T hk
    obtain ⟨j, rfl⟩ : ∃ q, j = q + 1 := ⟨j - 1, by omega⟩
    have hw := wd_len i
    have hv : ∀ h' : AH, pLen Tryz.prog #[32] wv h' = some (.int .i64 (2 * i + 2 * (n + 1) : Nat)) := fun h' => by
      have := Sl1.len (T.sl1 (f := bv) (l := wd i ++ List.replicate (2 * (n + 1)) false) 0 rfl) u32 (h' := h')
      simpa [hw] using this
    obtain ⟨bm, em, hx⟩ := T.idx (t := 32) 0 rfl (kd := .i64) (j := 2 * i + 1) (by rw [brows_len, List.length_append, hw, List.length_replicate]; omega) u32 sz4
    have ei : (((2 * i + 1 : Nat)) : Int) = 2 * (i : Int) + 1 := by omega
    rw [ei] at hx
    simp only [F3_lrlrrrrrrrrrrr]
    repeat (first | (with_reducible apply qzV; simp (disch := omega) only [coreA, Int.reduceBEq, bzS8, hv, hx] <;> with_reducible rfl) | (with_reducible first | apply qzT | apply qzF | apply qzG | apply qzH) | ((with_reducible first | apply qzB | apply qzC | apply qzD); simp (disch := omega) only [coreA, Int.reduceBEq, bzS8, hv, hx] <;> with_reducible rfl))
    refine Tl.setAt T 0 rfl em (by rw [brows_len, List.length_append, hw, List.length_replicate]; omega) rfl sz4 rfl fun h' T' => ?_
    repeat (first | (with_reducible apply qzV; simp (disch := omega) only [coreA, Int.reduceBEq, bzS8] <;> with_reducible rfl) | (with_reducible first | apply qzT | apply qzF | apply qzG | apply qzH) | ((with_reducible first | apply qzB | apply qzC | apply qzD); simp (disch := omega) only [coreA, Int.reduceBEq, bzS8] <;> with_reducible rfl))
    have e2 : 2 * (i : Int) + 1 + 2 = 2 * ((i + 1 : Nat) : Int) + 1 := by omega
    rw [e2]
    refine ih (by omega) (by omega) ?_ hk
    have e3 : (brows (wd i ++ List.replicate (2 * (n + 1)) false)).set (2 * i + 1) (Value.bool true).cells.toList = brows (wd (i + 1) ++ List.replicate (2 * n) false) := by
      have : (wd i ++ List.replicate (2 * (n + 1)) false).set (2 * i + 1) true = wd (i + 1) ++ List.replicate (2 * n) false := by
        rw [List.set_append_right _ _ (by omega), hw, show 2 * i + 1 - 2 * i = 1 by omega, show 2 * (n + 1) = 2 * n + 1 + 1 by omega, List.replicate_succ, List.replicate_succ, wd_succ]
        simp
      rw [← this]
      simp [brows, bv, List.map_set, Value.cells]
    rw [← e3]
    exact T'
end Go.Proofs.YtghelamfaaakcaaGreat.Sh
