/- What 'segment.Put' comes to. -/
import Derived.Test.YtghelamfaaakcaaGreatSzS3
import Derived.Test.YtghelamfaaakcaaGreatSzS4
import Derived.Test.YtghelamfaaakcaaGreatSzNb
import Derived.Test.YtghelamfaaakcaaGreatSzBs
set_option linter.unusedVariables false
set_option linter.unusedSimpArgs false
set_option maxRecDepth 100000
namespace Go.Proofs.YtghelamfaaakcaaGreat.Sh
open Go Go.RowKit Go.Proofs.Ev Go.Lib
theorem bzS5 : type_of% (And.intro @ld3 (And.intro @ld2 (And.intro @ld9 (And.intro @ld4 (And.intro @ld31 (And.intro @fa31_0 (And.intro @fa31_1 (And.intro @fa31_2 (And.intro (fun a h => conv_int (a := a) (h := h) u3 u5) (And.intro @aggC (And.intro @ex2_0 (And.intro @ex2_1 (@Nat.add_zero))))))))))))) := And.intro @ld3 (And.intro @ld2 (And.intro @ld9 (And.intro @ld4 (And.intro @ld31 (And.intro @fa31_0 (And.intro @fa31_1 (And.intro @fa31_2 (And.intro (fun a h => conv_int (a := a) (h := h) u3 u5) (And.intro @aggC (And.intro @ex2_0 (And.intro @ex2_1 (@Nat.add_zero))))))))))))
theorem appCs : AppT Tryz.prog #[22, 22] 31 3 32 := ⟨by kernel_rfl, ⟨31, by kernel_rfl⟩, by kernel_rfl, by omega, by kernel_rfl, ⟨_, ze31, rfl, rfl⟩⟩
theorem bsCs (c : CellD) (h : AH) : pBuildSlice Tryz.prog 22 1 #[(0, c.v)] h = some (.slice (some ⟨h.n, 0, none⟩) 1 1, h.alloc (.cells (crow c) 31 true)) := by kernel_rfl
def flg (l : List CellD) : List Bool := l.map fun c => decide (c.k = 0)
def crows (l : List CellD) : List (List Value) := l.map crow
theorem crows_len (l : List CellD) : (crows l).length = l.length := List.length_map ..
def flx (l : List CellD) (i : Nat) : List Bool := flg (l.take i) ++ List.replicate (l.length - i) false
theorem flx_len {l : List CellD} {i : Nat} (h : i ≤ l.length) : (flx l i).length = l.length := by simp [flx, flg]; omega
theorem flx_set {l : List CellD} {i : Nat} {c : CellD} (hc : l[i]? = some c) : (flx l i).set i (decide (c.k = 0)) = flx l (i + 1) := by
  have hlt := (List.getElem?_eq_some_iff.1 hc).1
  have hti : l.take (i + 1) = l.take i ++ [c] := by rw [List.take_add_one, hc]; rfl
  have hr : l.length - i = (l.length - (i + 1)) + 1 := by omega
  have hl : (flg (l.take i)).length = i := by simp [flg]; omega
  unfold flx
  rw [hti, hr, List.replicate_succ, List.set_append_right _ _ (by omega), hl, Nat.sub_self]
  simp [flg]
theorem vals_step {l : List CellD} {i : Nat} {c : CellD} (hc : l[i]? = some c) : vals (l.take (i + 1)) = if c.k = 0 then vals (l.take i) else vals (l.take i) ++ [c] := by
  have hti : l.take (i + 1) = l.take i ++ [c] := by rw [List.take_add_one, hc]; rfl
  rw [hti]
  unfold vals
  rw [List.filter_append]
  by_cases h : c.k = 0 <;> simp [h]
theorem f13_loop {β : Type} {k : Nat} {Q : β → Prop} {h0 : AH} {v kv : Value} {l : List CellD} (A : Cells h0 v l) (hl : l.length ≤ 4096) {ke0 : Value → Value → Value → Value → Value → Value → Value → AH → Option β} (n : Nat) :
    ∀ {i j : Nat} {h : AH} {nv sv : Value}, i + n = l.length → n < j → Stt Tryz.prog h0.n h0 h [] [(nv, 1, brows (flx l i)), (sv, 3, crows (vals (l.take i)))] →
      (∀ h' nv' sv' y1 y2, Stt Tryz.prog h0.n h0 h' [] [(nv', 1, brows (flg l)), (sv', 3, crows (vals l))] → Tl (ke0 kv nv' sv' v (.int .i64 l.length) y1 y2 h') Q) →
      Tl (F13_lrlrrrr (eInv env k) k j kv nv sv v (.int .i64 l.length) (.int .i64 i) h ke0) Q := by
  induction n with
  | zero =>
    intro i j h nv sv hi hj T hk
    obtain ⟨j, rfl⟩ : ∃ q, j = q + 1 := ⟨j - 1, by omega⟩
    simp only [F13_lrlrrrr]
    repeat (first | (with_reducible apply qzV; simp (disch := omega) only [coreA, Int.reduceBEq, bzS5] <;> with_reducible rfl) | (with_reducible first | apply qzT | apply qzF | apply qzG | apply qzH) | ((with_reducible first | apply qzB | apply qzC | apply qzD); simp (disch := omega) only [coreA, Int.reduceBEq, bzS5] <;> with_reducible rfl))
    have e1 : flx l i = flg l := by unfold flx; rw [List.take_of_length_le (by omega), show l.length - i = 0 by omega]; simp
    rw [e1, List.take_of_length_le (by omega)] at T
    exact hk _ _ _ _ _ T
  | succ n ih =>
    intro i j h nv sv hi hj T hk
    obtain ⟨j, rfl⟩ : ∃ q, j = q + 1 := ⟨j - 1, by omega⟩
    obtain ⟨c, hc⟩ : ∃ c, l[i]? = some c := ⟨_, List.getElem?_eq_getElem (by omega)⟩
    obtain ⟨b, o, hx, hr⟩ := (A.grow T.grow).at_ hc
    have e : (i : Int) + 1 = ((i + 1 : Nat) : Int) := by omega
    have hfl := flx_len (l := l) (i := i) (by omega)
    obtain ⟨bm, em, hm⟩ := T.idx (t := 32) 0 rfl (kd := .i64) (j := i) (by rw [brows_len]; omega) u32 sz4
    have hvs := vals_step hc
    have hvl : (vals (l.take i)).length ≤ 4096 := by have := vals_le (l.take i); rw [List.length_take] at this; omega
    simp only [F13_lrlrrrr]
    unfold F13_lrrllrlrrrr
    repeat (first | (with_reducible apply qzV; simp (disch := omega) only [coreA, Int.reduceBEq, bzS5, hx, hr] <;> with_reducible rfl) | (with_reducible first | apply qzT | apply qzF | apply qzG | apply qzH) | ((with_reducible first | apply qzB | apply qzC | apply qzD); simp (disch := omega) only [coreA, Int.reduceBEq, bzS5, hx, hr] <;> with_reducible rfl))
    refine Tl.alloc' T ze31 rfl fun b4 h1 T1 _ => ?_
    refine Tl.store' T1 0 rfl sz31 rfl rfl (of_decide_eq_true rfl) fun h2 T2 _ => ?_
    have T2 : Stt Tryz.prog h0.n h0 h2 [Cr b4 c] [(nv, 1, brows (flx l i)), (sv, 3, crows (vals (l.take i)))] := T2
    obtain ⟨_, k4, _⟩ := c_at T2 0 rfl
    have dc : (c.k == 0) = decide (c.k = 0) := by by_cases q : c.k = 0 <;> simp [q]
    repeat (first | (with_reducible apply qzV; simp (disch := omega) only [coreA, Int.reduceBEq, bzS5, k4, hm, dc] <;> with_reducible rfl) | (with_reducible first | apply qzT | apply qzF | apply qzG | apply qzH) | ((with_reducible first | apply qzB | apply qzC | apply qzD); simp (disch := omega) only [coreA, Int.reduceBEq, bzS5, k4, hm, dc] <;> with_reducible rfl))
    refine Tl.setAt T2 0 rfl em (by rw [brows_len]; omega) rfl sz4 rfl fun h3 T3 => ?_
    have e3 : (brows (flx l i)).set i (Value.bool (decide (c.k = 0))).cells.toList = brows (flx l (i + 1)) := by rw [← flx_set hc]; simp [brows, bv, List.map_set, Value.cells]
    have T3 : Stt Tryz.prog h0.n h0 h3 [Cr b4 c] [(nv, 1, brows (flx l (i + 1))), (sv, 3, crows (vals (l.take i)))] := by rw [← e3]; exact T3
    have gi : (flx l (i + 1))[i]? = some (decide (c.k = 0)) := by rw [← flx_set hc, List.getElem?_set_self (by omega)]
    obtain ⟨b5, o5, hp5, hc5⟩ := Sl1.at_ (T3.sl1 (f := bv) 0 rfl) (t := 32) (k := .i64) gi u32 sz4
    have hc5 := hc5 h3 (Grow.refl _)
    obtain ⟨r4, _⟩ := c_at T3 0 rfl
    by_cases q : c.k = 0
    · rw [if_pos q] at hvs
      have qd := decide_eq_true q
      rw [qd] at hc5
      unfold bv at hc5
      repeat (first | (with_reducible apply qzV; simp (disch := omega) only [coreA, Int.reduceBEq, bzS5, hp5, hc5] <;> with_reducible rfl) | (with_reducible first | apply qzT | apply qzF | apply qzG | apply qzH) | ((with_reducible first | apply qzB | apply qzC | apply qzD); simp (disch := omega) only [coreA, Int.reduceBEq, bzS5, hp5, hc5] <;> with_reducible rfl))
      rw [e]
      refine ih (by omega) (by omega) ?_ hk
      rw [hvs]
      exact T3.drop
    · rw [if_neg q] at hvs
      have qd := decide_eq_false q
      rw [qd] at hc5
      unfold bv at hc5
      repeat (first | (with_reducible apply qzV; simp (disch := omega) only [coreA, Int.reduceBEq, bzS5, hp5, hc5, r4] <;> with_reducible rfl) | (with_reducible first | apply qzT | apply qzF | apply qzG | apply qzH) | ((with_reducible first | apply qzB | apply qzC | apply qzD); simp (disch := omega) only [coreA, Int.reduceBEq, bzS5, hp5, hc5, r4] <;> with_reducible rfl))
      refine Tl.push T3 1 rfl appCs (bsCs _ _) rfl rfl (by rw [crows_len]; omega) fun sv' h5 T5 => ?_
      repeat (first | (with_reducible apply qzV; simp (disch := omega) only [coreA, Int.reduceBEq, bzS5] <;> with_reducible rfl) | (with_reducible first | apply qzT | apply qzF | apply qzG | apply qzH) | ((with_reducible first | apply qzB | apply qzC | apply qzD); simp (disch := omega) only [coreA, Int.reduceBEq, bzS5] <;> with_reducible rfl))
      rw [e]
      refine ih (by omega) (by omega) ?_ hk
      rw [hvs]
      have e5 : crows (vals (l.take i)) ++ [crow c] = crows (vals (l.take i) ++ [c]) := by simp [crows]
      rw [← e5]
      exact T5.drop
end Go.Proofs.YtghelamfaaakcaaGreat.Sh
