/- 'slices.Compact' of numbers, 'pred.Cols': the columns of a predicate, rising, each once. -/
import Derived.Test.YtmhgihjmhmihpaaSzVc
set_option linter.unusedVariables false
set_option linter.unusedSimpArgs false
set_option maxRecDepth 100000
namespace Go.Proofs.Ytmhgihjmhmihpaa.Sh
open Go Go.RowKit Go.Proofs.Ev
theorem base_Vn : type_of% (And.intro @ld3 (And.intro @ld46 (And.intro @ld48 (And.intro @fa48_0 (And.intro @fa48_1 (And.intro @fa48_2 (And.intro @fa48_3 (@Nat.add_zero)))))))) := And.intro @ld3 (And.intro @ld46 (And.intro @ld48 (And.intro @fa48_0 (And.intro @fa48_1 (And.intro @fa48_2 (And.intro @fa48_3 (@Nat.add_zero)))))))
/-! ### 'slices.Compact' -/
def compactL : List Int → List Int
  | [] => []
  | [x] => [x]
  | x :: y :: l => if x = y then compactL (y :: l) else x :: compactL (y :: l)
theorem compactL_cc (a c : Int) (l : List Int) : compactL (a :: c :: l) = if a = c then compactL (c :: l) else a :: compactL (c :: l) := by rw [compactL]
theorem compactL_snoc (p x : Int) : ∀ l : List Int, compactL (l ++ [p, x]) = if x = p then compactL (l ++ [p]) else compactL (l ++ [p]) ++ [x]
  | [] => by
    by_cases q : p = x
    · subst q; simp [compactL]
    · have : ¬ x = p := fun h => q h.symm
      simp [compactL, q, this]
  | [a] => by
    have ih := compactL_snoc p x []
    simp only [List.nil_append] at ih
    show compactL (a :: p :: [x]) = if x = p then compactL (a :: p :: []) else compactL (a :: p :: []) ++ [x]
    rw [compactL_cc, compactL_cc a p [], ih]
    by_cases q : a = p
    · rw [if_pos q, if_pos q]
    · rw [if_neg q, if_neg q]
      split <;> rfl
  | a :: b :: l => by
    have ih : compactL (b :: (l ++ [p, x])) = if x = p then compactL (b :: (l ++ [p])) else compactL (b :: (l ++ [p])) ++ [x] := compactL_snoc p x (b :: l)
    show compactL (a :: b :: (l ++ [p, x])) = if x = p then compactL (a :: b :: (l ++ [p])) else compactL (a :: b :: (l ++ [p])) ++ [x]
    rw [compactL_cc, compactL_cc a b (l ++ [p]), ih]
    by_cases q : a = b
    · rw [if_pos q, if_pos q]
    · rw [if_neg q, if_neg q]
      split <;> rfl
theorem compactL_take {xs : List Int} {j : Nat} {p x : Int} (h1 : 1 ≤ j) (hp : xs[j - 1]? = some p) (hx : xs[j]? = some x) : compactL (xs.take (j + 1)) = if x = p then compactL (xs.take j) else compactL (xs.take j) ++ [x] := by
  have e1 : xs.take j = xs.take (j - 1) ++ [p] := by
    have : xs.take (j - 1 + 1) = xs.take (j - 1) ++ [p] := by rw [List.take_add_one, hp]; rfl
    rwa [show j - 1 + 1 = j by omega] at this
  have e2 : xs.take (j + 1) = xs.take (j - 1) ++ [p, x] := by rw [List.take_add_one, hx, e1]; simp
  rw [e2, e1, compactL_snoc]
theorem compactL_len : ∀ l : List Int, (compactL l).length ≤ l.length
  | [] => Nat.le_refl _
  | [x] => Nat.le_refl _
  | x :: y :: l => by
    have := compactL_len (y :: l)
    rw [compactL]
    split
    · simp only [List.length_cons] at this ⊢; omega
    · simp only [List.length_cons] at this ⊢; omega
def iv (x : Int) : Value := .int .i64 x
theorem idxK {b o n c : Nat} {i : Int} (h0 : 0 ≤ i) (hn : i < n) : pIndexAddr Try.prog 46 (.slice (some ⟨b, o, none⟩) n c) (.int .i64 i) = some (.pointer (some ⟨b, o + i.toNat, none⟩)) := by
  have := indexAddr_slice (k := .i64) u46 sz3 (q := ⟨b, o, none⟩) (n := n) (c := c) h0 hn
  simpa using this
theorem lenK {a : Option Addr} {n c : Nat} (h : AH) : pLen Try.prog #[46] (.slice a n c) h = some (.int .i64 n) := len_slice u46
theorem sliceFrom {b o n c i : Nat} {h : AH} {cs : List Value} {e : TypeId} (hg : h.get b = some (.cells cs e true)) (he : szT Try.prog e = some 1) (hi : i ≤ n) (hc : n ≤ c) : pSlice Try.prog 46 (.slice (some ⟨b, o, none⟩) n c) (some (.int .i64 (i : Int))) none none h = some (.slice (some ⟨b, o + i, none⟩) (n - i) (c - i)) := by
  have hel : elemT Try.prog 46 = some 3 := el46
  have hz : szOk Try.prog (some ⟨b, o, none⟩) 1 h = true := by
    unfold szOk
    simp only [hg, he]
    rfl
  unfold pSlice
  simp only [hel, Option.bind_some, sz3, intOr]
  rw [if_pos ⟨by omega, by omega, by omega, by omega, .inl rfl, .inr (.inr hz)⟩]
  simp
theorem sliceTo {b o n c i : Nat} {h : AH} (hi : i ≤ c) (hn : i ≤ n) : pSlice Try.prog 46 (.slice (some ⟨b, o, none⟩) n c) none (some (.int .i64 (i : Int))) none h = some (.slice (some ⟨b, o, none⟩) i c) := by
  have hel : elemT Try.prog 46 = some 3 := el46
  unfold pSlice
  simp only [hel, Option.bind_some, sz3, intOr]
  rw [if_pos ⟨by omega, by omega, by omega, by omega, .inl rfl, .inl trivial⟩]
  simp
variable {n0 : Nat} {h0 : AH} {L : List (Nat × AO)} {O : List OS}
theorem splice_one {cs : List Value} {i : Nat} {v : Value} (h : i < cs.length) : splice cs i [v] = cs.set i v := by
  unfold splice
  rw [List.set_eq_take_append_cons_drop, if_pos h]
  simp
theorem f44_in {β : Type} {inv : Inv} {k : Nat} {Q : β → Prop} {b n : Nat} {xs : List Int} {e : TypeId} {k0 : Nat} (hxs : xs.length = n) (hk0 : 1 ≤ k0 ∧ k0 < n) (hn : n ≤ 2 ^ 30)
    {ke2 : Value → Value → Value → Value → Value → AH → Option β} (m : Nat) :
    ∀ {k2 j w : Nat} {ds : List Value} {h : AH}, k0 + k2 + m = n → 1 ≤ k2 → m < j → n ≤ ds.length → w = (compactL (xs.take (k0 + k2))).length → w + 1 ≤ k0 + k2 → (∀ t, t < w → ds[t]? = ((compactL (xs.take (k0 + k2)))[t]?).map iv) → (∀ t, k0 + k2 ≤ t + 1 → t < n → ds[t]? = (xs[t]?).map iv) →
      Stt Try.prog n0 h0 h ((b, .cells ds e true) :: L) O →
      (∀ (w' : Nat) (ds' : List Value) y4 y5 y32 h', ds'.length = ds.length → w' = (compactL xs).length → (∀ t, t < w' → ds'[t]? = ((compactL xs)[t]?).map iv) → Stt Try.prog n0 h0 h' ((b, .cells ds' e true) :: L) O → Tl (ke2 (.slice (some ⟨b, 0, none⟩) n n) (.int .i64 w') y4 y5 y32 h') Q) →
      Tl (F44_lrlrlrllrllrlrr inv k j (.slice (some ⟨b, 0, none⟩) n n) (.int .i64 w) (.slice (some ⟨b, k0, none⟩) (n - k0) (n - k0)) (.int .i64 k2) h ke2) Q := by
  induction m with
  | zero =>
    intro k2 j w ds h hm hk2 hj hds hw hw2 i1 i2 S hk
    obtain ⟨j, rfl⟩ : ∃ q, j = q + 1 := ⟨j - 1, by omega⟩
    simp only [F44_lrlrlrllrllrlrr]
    repeat (first | (with_reducible apply Tl.val; focus (simp (disch := omega) only [coreA, Int.reduceBEq, base_Vn, lenK] <;> with_reducible rfl)) | (with_reducible first | refine Tl.brT ?_ | refine Tl.brF ?_ | refine Tl.gd_on ?_ | refine Tl.gd3_on ?_) | ((with_reducible first | apply Tl.brC | apply Tl.gdC | apply Tl.gd3C); focus (simp (disch := omega) only [coreA, Int.reduceBEq, base_Vn, lenK] <;> with_reducible rfl)))
    rw [List.take_of_length_le (by omega)] at hw i1
    exact hk w ds _ _ _ _ rfl hw i1 S
  | succ m ih =>
    intro k2 j w ds h hm hk2 hj hds hw hw2 i1 i2 S hk
    obtain ⟨j, rfl⟩ : ∃ q, j = q + 1 := ⟨j - 1, by omega⟩
    obtain ⟨x, ex⟩ : ∃ x, xs[k0 + k2]? = some x := ⟨_, List.getElem?_eq_getElem (by omega)⟩
    obtain ⟨p, ep⟩ : ∃ x, xs[k0 + k2 - 1]? = some x := ⟨_, List.getElem?_eq_getElem (by omega)⟩
    have cx : h.cell b (k0 + k2) = some (.int .i64 x) := S.cell 0 rfl (by rw [i2 _ (by omega) (by omega), ex]; rfl)
    have cp : h.cell b (k0 + (k2 - 1)) = some (.int .i64 p) := S.cell 0 rfl (by rw [i2 _ (by omega) (by omega), show k0 + (k2 - 1) = k0 + k2 - 1 by omega, ep]; rfl)
    have a1 : pIndexAddr Try.prog 46 (.slice (some ⟨b, k0, none⟩) (n - k0) (n - k0)) (.int .i64 (k2 : Int)) = some (.pointer (some ⟨b, k0 + k2, none⟩)) := by
      rw [idxK (by omega) (by omega)]; simp
    have a2 : pIndexAddr Try.prog 46 (.slice (some ⟨b, k0, none⟩) (n - k0) (n - k0)) (.int .i64 ((k2 : Int) - 1)) = some (.pointer (some ⟨b, k0 + (k2 - 1), none⟩)) := by
      rw [idxK (by omega) (by omega), show ((k2 : Int) - 1).toNat = k2 - 1 by omega]
    have a3 : pIndexAddr Try.prog 46 (.slice (some ⟨b, 0, none⟩) n n) (.int .i64 (w : Int)) = some (.pointer (some ⟨b, w, none⟩)) := by
      rw [idxK (by omega) (by omega)]; simp
    have e1 : (k2 : Int) + 1 = ((k2 + 1 : Nat) : Int) := by omega
    have e2 : (w : Int) + 1 = ((w + 1 : Nat) : Int) := by omega
    have ct := compactL_take (show 1 ≤ k0 + k2 by omega) ep ex
    simp only [F44_lrlrlrllrllrlrr]
    unfold F44_lrllrlrlrllrllrlrr
    by_cases q : x = p
    · rw [if_pos q] at ct
      repeat (first | (with_reducible apply Tl.val; focus (simp (disch := omega) only [coreA, Int.reduceBEq, base_Vn, lenK, a1, a2, cx, cp] <;> with_reducible rfl)) | (with_reducible first | refine Tl.brT ?_ | refine Tl.brF ?_ | refine Tl.gd_on ?_ | refine Tl.gd3_on ?_) | ((with_reducible first | apply Tl.brC | apply Tl.gdC | apply Tl.gd3C); focus (simp (disch := omega) only [coreA, Int.reduceBEq, base_Vn, lenK, a1, a2, cx, cp] <;> with_reducible rfl)))
      rw [e1]
      refine ih (k2 := k2 + 1) (by omega) (by omega) (by omega) hds (by rw [show k0 + (k2 + 1) = k0 + k2 + 1 by omega, ct]; exact hw) (by omega) (by rw [show k0 + (k2 + 1) = k0 + k2 + 1 by omega, ct]; exact i1) (fun t h1 h2 => i2 t (by omega) h2) S hk
    · rw [if_neg q] at ct
      repeat (first | (with_reducible apply Tl.val; focus (simp (disch := omega) only [coreA, Int.reduceBEq, base_Vn, lenK, a1, a2, a3, cx, cp] <;> with_reducible rfl)) | (with_reducible first | refine Tl.brT ?_ | refine Tl.brF ?_ | refine Tl.gd_on ?_ | refine Tl.gd3_on ?_) | ((with_reducible first | apply Tl.brC | apply Tl.gdC | apply Tl.gd3C); focus (simp (disch := omega) only [coreA, Int.reduceBEq, base_Vn, lenK, a1, a2, a3, cx, cp] <;> with_reducible rfl)))
      refine Tl.store' S 0 rfl sz3 rfl rfl (by show w + 1 ≤ ds.length; omega) fun h' S' _ => ?_
      have S' : Stt Try.prog n0 h0 h' ((b, .cells (ds.set w (iv x)) e true) :: L) O := by
        have := splice_one (cs := ds) (i := w) (v := iv x) (by omega)
        rw [← this]
        exact S'
      repeat (first | (with_reducible apply Tl.val; focus (simp (disch := omega) only [coreA, Int.reduceBEq, base_Vn] <;> with_reducible rfl)) | (with_reducible first | refine Tl.brT ?_ | refine Tl.brF ?_ | refine Tl.gd_on ?_ | refine Tl.gd3_on ?_) | ((with_reducible first | apply Tl.brC | apply Tl.gdC | apply Tl.gd3C); focus (simp (disch := omega) only [coreA, Int.reduceBEq, base_Vn] <;> with_reducible rfl)))
      rw [e1, e2]
      refine ih (k2 := k2 + 1) (ds := ds.set w (iv x)) (by omega) (by omega) (by omega) (by rw [List.length_set]; exact hds) (by rw [show k0 + (k2 + 1) = k0 + k2 + 1 by omega, ct, List.length_append]; simp; exact hw) (by omega) (fun t ht => ?_) (fun t h1 h2 => ?_) S' fun w' ds' y4 y5 y32 h'' hl => hk w' ds' y4 y5 y32 h'' (by rw [hl, List.length_set])
      · rw [show k0 + (k2 + 1) = k0 + k2 + 1 by omega, ct]
        by_cases q2 : t = w
        · subst q2
          rw [List.getElem?_set_self (by omega), List.getElem?_append_right (by omega), hw, Nat.sub_self]
          rfl
        · rw [List.getElem?_set_ne (by omega), List.getElem?_append_left (by omega)]
          exact i1 t (by omega)
      · rw [List.getElem?_set_ne (by omega)]
        exact i2 t (by omega) h2
theorem splice_left {cs vs : List Value} {w t : Nat} (ht : t < w) (hw : w ≤ cs.length) : (splice cs w vs)[t]? = cs[t]? := by
  unfold splice
  rw [List.append_assoc, List.getElem?_append_left (by simp; omega), List.getElem?_take_of_lt ht]
theorem splice_length {cs vs : List Value} {w : Nat} (hw : w + vs.length ≤ cs.length) : (splice cs w vs).length = cs.length := by
  unfold splice
  simp
  omega
theorem f44_out {k : Nat} {b n : Nat} {xs : List Int} {e : TypeId} (he : szT Try.prog e = some 1) (hxs : xs.length = n) (hn : n ≤ 2 ^ 30) (hk1 : n < k) {ds : List Value} {h : AH} (hds : n ≤ ds.length) (hd : ∀ t, t < n → ds[t]? = (xs[t]?).map iv)
    (S : Stt Try.prog n0 h0 h ((b, .cells ds e true) :: L) O) {ke0 : Value → Value → Value → AH → Option (Value × AH)} {kr : Value → AH → Option (Value × AH)} {Q : Value × AH → Prop}
    (hk : compactL xs = xs → ∀ y3 y13, Tl (ke0 (.slice (some ⟨b, 0, none⟩) n n) y3 y13 h) Q)
    (hr : ∀ (w : Nat) (ds' : List Value) h', w = (compactL xs).length → ds'.length = ds.length → (∀ t, t < w → ds'[t]? = ((compactL xs)[t]?).map iv) → Stt Try.prog n0 h0 h' ((b, .cells ds' e true) :: L) O → Tl (kr (.slice (some ⟨b, 0, none⟩) w n) h') Q) (m : Nat) :
    ∀ {i j : Nat}, i + m = n → m < j → 1 ≤ i → compactL (xs.take i) = xs.take i → Tl (F44_lrlrr (eInv env k) k j (.slice (some ⟨b, 0, none⟩) n n) (.int .i64 i) h ke0 kr) Q := by
  induction m with
  | zero =>
    intro i j hi hj h1 hc
    obtain ⟨j, rfl⟩ : ∃ q, j = q + 1 := ⟨j - 1, by omega⟩
    simp only [F44_lrlrr]
    repeat (first | (with_reducible apply Tl.val; focus (simp (disch := omega) only [coreA, Int.reduceBEq, base_Vn, lenK] <;> with_reducible rfl)) | (with_reducible first | refine Tl.brT ?_ | refine Tl.brF ?_ | refine Tl.gd_on ?_ | refine Tl.gd3_on ?_) | ((with_reducible first | apply Tl.brC | apply Tl.gdC | apply Tl.gd3C); focus (simp (disch := omega) only [coreA, Int.reduceBEq, base_Vn, lenK] <;> with_reducible rfl)))
    rw [List.take_of_length_le (by omega)] at hc
    exact hk hc _ _
  | succ m ih =>
    intro i j hi hj h1 hc
    obtain ⟨j, rfl⟩ : ∃ q, j = q + 1 := ⟨j - 1, by omega⟩
    obtain ⟨x, ex⟩ : ∃ x, xs[i]? = some x := ⟨_, List.getElem?_eq_getElem (by omega)⟩
    obtain ⟨p, ep⟩ : ∃ x, xs[i - 1]? = some x := ⟨_, List.getElem?_eq_getElem (by omega)⟩
    have cx : h.cell b i = some (.int .i64 x) := S.cell 0 rfl (by rw [hd _ (by omega), ex]; rfl)
    have cp : h.cell b (i - 1) = some (.int .i64 p) := S.cell 0 rfl (by rw [hd _ (by omega), ep]; rfl)
    have a1 : pIndexAddr Try.prog 46 (.slice (some ⟨b, 0, none⟩) n n) (.int .i64 (i : Int)) = some (.pointer (some ⟨b, i, none⟩)) := by
      rw [idxK (by omega) (by omega)]; simp
    have a2 : pIndexAddr Try.prog 46 (.slice (some ⟨b, 0, none⟩) n n) (.int .i64 ((i : Int) - 1)) = some (.pointer (some ⟨b, i - 1, none⟩)) := by
      rw [idxK (by omega) (by omega), show ((i : Int) - 1).toNat = i - 1 by omega]; simp
    have e1 : (i : Int) + 1 = ((i + 1 : Nat) : Int) := by omega
    have ct := compactL_take h1 ep ex
    simp only [F44_lrlrr]
    by_cases q : x = p
    · rw [if_pos q, hc] at ct
      have a3 : pSlice Try.prog 46 (.slice (some ⟨b, 0, none⟩) n n) (some (.int .i64 (i : Int))) none none h = some (.slice (some ⟨b, i, none⟩) (n - i) (n - i)) := by
        have := sliceFrom (o := 0) (i := i) (S.sta.mem.at_ (i := 0) rfl) he (show i ≤ n by omega) (Nat.le_refl n)
        rwa [Nat.zero_add] at this
      have hti : (xs.take i).length = i := by simp; omega
      repeat (first | (with_reducible apply Tl.val; focus (simp (disch := omega) only [coreA, Int.reduceBEq, base_Vn, lenK, a1, a2, cx, cp, a3] <;> with_reducible rfl)) | (with_reducible first | refine Tl.brT ?_ | refine Tl.brF ?_ | refine Tl.gd_on ?_ | refine Tl.gd3_on ?_) | ((with_reducible first | apply Tl.brC | apply Tl.gdC | apply Tl.gd3C); focus (simp (disch := omega) only [coreA, Int.reduceBEq, base_Vn, lenK, a1, a2, cx, cp, a3] <;> with_reducible rfl)))
      refine f44_in (k0 := i) hxs ⟨h1, by omega⟩ hn m (k2 := 1) (w := i) (by omega) (by omega) (by omega) hds (by rw [ct, hti]) (by omega) (fun t ht => ?_) (fun t _ h2 => hd t h2) S fun w ds' y4 y5 y32 h1 hl hw hd' S1 => ?_
      · rw [ct, List.getElem?_take_of_lt ht]
        exact hd t (by omega)
      · have hwn : w ≤ n := by have := compactL_len xs; omega
        have b1 : pSlice Try.prog 46 (.slice (some ⟨b, 0, none⟩) n n) (some (.int .i64 (w : Int))) none none h1 = some (.slice (some ⟨b, w, none⟩) (n - w) (n - w)) := by
          have := sliceFrom (o := 0) (i := w) (S1.sta.mem.at_ (i := 0) rfl) he hwn (Nat.le_refl n)
          rwa [Nat.zero_add] at this
        have b2 : ∀ h', pSlice Try.prog 46 (.slice (some ⟨b, 0, none⟩) n n) none (some (.int .i64 (w : Int))) none h' = some (.slice (some ⟨b, 0, none⟩) w n) := fun h' => sliceTo hwn hwn
        have hcl : ∃ h2 ds2, pClear Try.prog #[46] (.slice (some ⟨b, w, none⟩) (n - w) (n - w)) h1 = some h2 ∧ ds2.length = ds'.length ∧ (∀ t, t < w → ds2[t]? = ds'[t]?) ∧ Stt Try.prog n0 h0 h2 ((b, .cells ds2 e true) :: L) O := by
          have hel : elemT Try.prog 46 = some 3 := el46
          by_cases q0 : n - w = 0
          · refine ⟨h1, ds', ?_, rfl, fun _ _ => rfl, S1⟩
            unfold pClear
            simp [hel, q0]
          · have hg := S1.sta.mem.at_ (i := 0) rfl
            have hzl : (List.replicate (n - w) (Value.int .i64 0).cells.toList).flatten.length = n - w := by simp [Value.cells]
            refine ⟨_, splice ds' w (List.replicate (n - w) (Value.int .i64 0).cells.toList).flatten, ?_, splice_length (by rw [hzl, hl]; omega), fun t ht => splice_left ht (by omega), S1.set 0 rfl _⟩
            unfold pClear
            simp only [List.getElem?_toArray, List.getElem?_cons_zero, Option.bind_some, hel, q0, if_false, ze3]
            rw [if_pos (by rfl)]
            unfold AH.put
            rw [hg]
            simp only
            rw [if_pos (by rw [hzl, hl]; omega)]
        obtain ⟨h2, ds2, c1, c2, c3, S2⟩ := hcl
        have c1' : kSt (pClear Try.prog #[46] (.slice (some ⟨b, w, none⟩) (n - w) (n - w)) h1) = some (unk, h2) := by rw [c1]; rfl
        repeat (first | (with_reducible apply Tl.val; focus (simp (disch := omega) only [coreA, Int.reduceBEq, base_Vn, b1, b2, c1'] <;> with_reducible rfl)) | (with_reducible first | refine Tl.brT ?_ | refine Tl.brF ?_ | refine Tl.gd_on ?_ | refine Tl.gd3_on ?_) | ((with_reducible first | apply Tl.brC | apply Tl.gdC | apply Tl.gd3C); focus (simp (disch := omega) only [coreA, Int.reduceBEq, base_Vn, b1, b2, c1'] <;> with_reducible rfl)))
        exact hr w ds2 h2 hw (by rw [c2, hl]) (fun t ht => by rw [c3 t ht]; exact hd' t ht) S2
    · rw [if_neg q, hc] at ct
      repeat (first | (with_reducible apply Tl.val; focus (simp (disch := omega) only [coreA, Int.reduceBEq, base_Vn, lenK, a1, a2, cx, cp] <;> with_reducible rfl)) | (with_reducible first | refine Tl.brT ?_ | refine Tl.brF ?_ | refine Tl.gd_on ?_ | refine Tl.gd3_on ?_) | ((with_reducible first | apply Tl.brC | apply Tl.gdC | apply Tl.gd3C); focus (simp (disch := omega) only [coreA, Int.reduceBEq, base_Vn, lenK, a1, a2, cx, cp] <;> with_reducible rfl)))
      rw [e1]
      refine ih (by omega) (by omega) (by omega) ?_
      rw [ct, List.take_add_one, ex]
      rfl
/-- 'Compact' of a known block. -/
theorem f44k {k : Nat} {b n : Nat} {xs : List Int} {e : TypeId} (he : szT Try.prog e = some 1) (hxs : xs.length = n) (hn : n ≤ 2 ^ 30) (hk1 : n < k) {ds : List Value} {h : AH} (hds : n ≤ ds.length) (hd : ∀ t, t < n → ds[t]? = (xs[t]?).map iv)
    (S : Stt Try.prog n0 h0 h ((b, .cells ds e true) :: L) O) : Tl (eInv env (k + 1) (.func 44) #[] #[.slice (some ⟨b, 0, none⟩) n n] h) fun r => ∃ (w : Nat) (ds' : List Value), r.1 = .slice (some ⟨b, 0, none⟩) w n ∧ w = (compactL xs).length ∧ ds'.length = ds.length ∧
      (∀ t, t < w → ds'[t]? = ((compactL xs)[t]?).map iv) ∧ Stt Try.prog n0 h0 r.2 ((b, .cells ds' e true) :: L) O := by
  rw [F44_call]
  unfold F44
  by_cases q : n < 2
  · have hc : compactL xs = xs := by
      match xs, hxs with
      | [], _ => rfl
      | [x], _ => rfl
      | x :: y :: l, h => simp at h; omega
    repeat (first | (with_reducible apply Tl.val; focus (simp (disch := omega) only [coreA, Int.reduceBEq, base_Vn, lenK] <;> with_reducible rfl)) | (with_reducible first | refine Tl.brT ?_ | refine Tl.brF ?_ | refine Tl.gd_on ?_ | refine Tl.gd3_on ?_) | ((with_reducible first | apply Tl.brC | apply Tl.gdC | apply Tl.gd3C); focus (simp (disch := omega) only [coreA, Int.reduceBEq, base_Vn, lenK] <;> with_reducible rfl)))
    exact ⟨_, rfl, n, ds, rfl, by rw [hc, hxs], rfl, by rw [hc]; exact hd, S⟩
  · repeat (first | (with_reducible apply Tl.val; focus (simp (disch := omega) only [coreA, Int.reduceBEq, base_Vn, lenK] <;> with_reducible rfl)) | (with_reducible first | refine Tl.brT ?_ | refine Tl.brF ?_ | refine Tl.gd_on ?_ | refine Tl.gd3_on ?_) | ((with_reducible first | apply Tl.brC | apply Tl.gdC | apply Tl.gd3C); focus (simp (disch := omega) only [coreA, Int.reduceBEq, base_Vn, lenK] <;> with_reducible rfl)))
    refine f44_out he hxs hn hk1 hds hd S (fun hc y3 y13 => ?_) (fun w ds' h' h1 h2 h3 S' => ?_) (n - 1) (i := 1) (by omega) (by omega) (by omega) ?_
    · exact ⟨_, rfl, n, ds, rfl, by rw [hc, hxs], rfl, by rw [hc]; exact hd, S⟩
    · exact ⟨_, rfl, w, ds', rfl, h1, h2, h3, S'⟩
    · match xs, hxs with
      | [], h => simp at h; omega
      | x :: l, _ => rfl
/-! ### 'pred.Cols' -/
def isCmp (nd : NodeD) : Bool := decide (2 ≤ nd.op) && decide (nd.op ≤ 5)
def colsOf (l : List NodeD) : List Int := (l.filter isCmp).map (·.col)
def colsM (l : List NodeD) : List Int := compactL (sortedI (colsOf l))
theorem irows_snoc' (l : List Int) (x : Int) : irows l ++ [[.int .i64 x]] = irows (l ++ [x]) := by simp [irows]
theorem f21_loop {β : Type} {k : Nat} {Q : β → Prop} {h0 : AH} {v : Value} {l : List NodeD} (PL : Preds h0 v l) (hl : l.length ≤ 900) {ke0 : Value → Value → Value → Value → Value → AH → Option β} (n : Nat) :
    ∀ {i j : Nat} {cs : List Int} {outv : Value} {h : AH}, i + n = l.length → n < j → cs.length ≤ i → Stt Try.prog h0.n h0 h [] [(outv, 1, irows cs)] →
      (∀ outv' y1 y2 y3 y4 h', Stt Try.prog h0.n h0 h' [] [(outv', 1, irows (cs ++ colsOf (l.drop i)))] → Tl (ke0 outv' y1 y2 y3 y4 h') Q) →
      Tl (F21_lrlrr (eInv env (k + 1)) (k + 1) j outv v (.int .i64 l.length) (.int .i64 i) h ke0) Q := by
  induction n with
  | zero =>
    intro i j cs outv h hi hj hcs S hk
    obtain ⟨j, rfl⟩ : ∃ q, j = q + 1 := ⟨j - 1, by omega⟩
    simp only [F21_lrlrr]
    repeat (first | (with_reducible apply Tl.val; focus (simp (disch := omega) only [coreA, Int.reduceBEq, base_Vn] <;> with_reducible rfl)) | (with_reducible first | refine Tl.brT ?_ | refine Tl.brF ?_ | refine Tl.gd_on ?_ | refine Tl.gd3_on ?_) | ((with_reducible first | apply Tl.brC | apply Tl.gdC | apply Tl.gd3C); focus (simp (disch := omega) only [coreA, Int.reduceBEq, base_Vn] <;> with_reducible rfl)))
    rw [List.drop_eq_nil_of_le (by omega)] at hk
    exact hk _ _ _ _ _ _ (by rw [show colsOf [] = [] from rfl, List.append_nil]; exact S)
  | succ n ih =>
    intro i j cs outv h hi hj hcs S hk
    obtain ⟨j, rfl⟩ : ∃ q, j = q + 1 := ⟨j - 1, by omega⟩
    obtain ⟨nd, ex⟩ : ∃ x, l[i]? = some x := ⟨_, List.getElem?_eq_getElem (by omega)⟩
    obtain ⟨b, o, pv, hp, hrow, N⟩ := PL.at_ ex
    have hrow1 := S.grow.row hrow
    obtain ⟨pa, pc, epv, _⟩ := SlZ.form N
    subst epv
    have e : (i : Int) + 1 = ((i + 1 : Nat) : Int) := by omega
    have hd : colsOf (l.drop i) = (if isCmp nd then [nd.col] else []) ++ colsOf (l.drop (i + 1)) := by
      rw [drop_at ex]
      unfold colsOf
      rw [List.filter_cons]
      split <;> rfl
    rw [hd] at hk
    have he : ∀ op h, eInv env (k + 1) (.func 26) #[] #[.int .i64 op] h = some (.bool (decide (2 ≤ op) && decide (op ≤ 5)), h) := fun op h => f26e op h
    simp only [F21_lrlrr]
    unfold F21_lrrllrlrr
    repeat (first | (with_reducible apply Tl.val; focus (simp (disch := omega) only [coreA, Int.reduceBEq, base_Vn, hp, hrow1] <;> with_reducible rfl)) | (with_reducible first | refine Tl.brT ?_ | refine Tl.brF ?_ | refine Tl.gd_on ?_ | refine Tl.gd3_on ?_) | ((with_reducible first | apply Tl.brC | apply Tl.gdC | apply Tl.gd3C); focus (simp (disch := omega) only [coreA, Int.reduceBEq, base_Vn, hp, hrow1] <;> with_reducible rfl)))
    refine Tl.alloc' S ze48 (by rfl) fun b5 h1 S1 g1 => ?_
    refine Tl.store' S1 0 rfl sz48 rfl rfl (by simp [Value.cells]) fun h2 S2 k2 => ?_
    have c0 : h2.cell b5 0 = some (.int .i64 nd.op) := S2.cell 0 rfl rfl
    have c1 : h2.cell b5 1 = some (.int .i64 nd.col) := S2.cell 0 rfl rfl
    have S3 := S2.drop
    cases q : isCmp nd with
    | true =>
      have q' : (decide (2 ≤ nd.op) && decide (nd.op ≤ 5)) = true := q
      rw [q, if_pos rfl] at hk
      repeat (first | (with_reducible apply Tl.val; focus (simp (disch := omega) only [coreA, Int.reduceBEq, base_Vn, c0, c1, he, q'] <;> with_reducible rfl)) | (with_reducible first | refine Tl.brT ?_ | refine Tl.brF ?_ | refine Tl.gd_on ?_ | refine Tl.gd3_on ?_) | ((with_reducible first | apply Tl.brC | apply Tl.gdC | apply Tl.gd3C); focus (simp (disch := omega) only [coreA, Int.reduceBEq, base_Vn, c0, c1, he, q'] <;> with_reducible rfl)))
      refine Tl.push S3 0 rfl app46 (bs46 _ _) rfl rfl (by rw [irows_len]; omega) fun v' h4 S4 => ?_
      repeat (first | (with_reducible apply Tl.val; focus (simp (disch := omega) only [coreA, Int.reduceBEq, base_Vn] <;> with_reducible rfl)) | (with_reducible first | refine Tl.brT ?_ | refine Tl.brF ?_ | refine Tl.gd_on ?_ | refine Tl.gd3_on ?_) | ((with_reducible first | apply Tl.brC | apply Tl.gdC | apply Tl.gd3C); focus (simp (disch := omega) only [coreA, Int.reduceBEq, base_Vn] <;> with_reducible rfl)))
      rw [e]
      refine ih (cs := cs ++ [nd.col]) (by omega) (by omega) (by simp; omega) (by rw [← irows_snoc']; exact S4) ?_
      rw [List.append_assoc]
      exact hk
    | false =>
      have q' : (decide (2 ≤ nd.op) && decide (nd.op ≤ 5)) = false := q
      rw [q, if_neg (by simp), List.nil_append] at hk
      repeat (first | (with_reducible apply Tl.val; focus (simp (disch := omega) only [coreA, Int.reduceBEq, base_Vn, c0, c1, he, q'] <;> with_reducible rfl)) | (with_reducible first | refine Tl.brT ?_ | refine Tl.brF ?_ | refine Tl.gd_on ?_ | refine Tl.gd3_on ?_) | ((with_reducible first | apply Tl.brC | apply Tl.gdC | apply Tl.gd3C); focus (simp (disch := omega) only [coreA, Int.reduceBEq, base_Vn, c0, c1, he, q'] <;> with_reducible rfl)))
      rw [e]
      exact ih (by omega) (by omega) (by omega) S3 hk
theorem irows_flatI : ∀ l : List Int, (irows l).flatten = l.map (Value.int .i64)
  | [] => rfl
  | a :: l => by
    have := irows_flatI l
    unfold irows at this ⊢
    rw [List.map_cons, List.flatten_cons, List.map_cons, this]
    rfl
/-- The library's sort, of a known block. -/
theorem sort_known {h : AH} {b n : Nat} {cs : List Value} {e : TypeId} {zs : List Int} (S : Stt Try.prog n0 h0 h ((b, .cells cs e true) :: L) O) (hz : zs.length = n) (hn : n ≤ 2 ^ 30) (hcs : irows zs ≠ [] → 0 + n * 1 ≤ cs.length ∧ (cs.drop 0).take (n * 1) = (irows zs).flatten) :
    ∃ h' ds, sortI #[.slice (some ⟨b, 0, none⟩) n n] h = some (.tuple #[], h') ∧ Stt Try.prog n0 h0 h' ((b, .cells ds e true) :: L) O ∧ n ≤ ds.length ∧ ∀ t, t < n → ds[t]? = ((sortedI zs)[t]?).map iv := by
  by_cases q : n = 0
  · refine ⟨h, cs, ?_, S, by omega, fun t ht => by omega⟩
    subst q
    rfl
  · have hne : irows zs ≠ [] := fun h => by
      have := congrArg List.length h
      rw [irows_len, List.length_nil] at this
      omega
    obtain ⟨h1, h2⟩ := hcs hne
    have hfl : (irows zs).flatten = zs.map (Value.int .i64) := irows_flatI zs
    rw [hfl, List.drop_zero, Nat.mul_one] at h2
    have hg := S.sta.mem.at_ (i := 0) rfl
    have hsl : ((sortedI zs).map (Value.int .i64)).length = n := by unfold sortedI; rw [List.length_map, List.length_mergeSort, hz]
    refine ⟨_, splice cs 0 ((sortedI zs).map (.int .i64)), ?_, S.set 0 rfl _, by rw [splice_length (by rw [hsl]; omega)]; omega, fun t ht => ?_⟩
    · unfold sortI
      simp only [q, if_false, hg]
      rw [if_pos ⟨by omega, by omega⟩, List.drop_zero, h2, intsOf_map]
      rfl
    · unfold splice
      rw [List.take_zero, List.nil_append, List.getElem?_append_left (by omega), List.getElem?_map]
      rfl
theorem f21c {k : Nat} {h : AH} {v : Value} {l : List NodeD} (PL : Preds h v l) (hl : l.length ≤ 900) :
    Tl (eInv env (k + 1010) (.func 21) #[] #[v] h) fun r => IntsZ r.2 r.1 (colsM l) ∧ Grow h r.2 := by
  rw [F21_call]
  unfold F21
  have hv : ∀ h', pLen Try.prog #[22] v h' = some (.int .i64 l.length) := fun h' => PL.len
  repeat (first | (with_reducible apply Tl.val; focus (simp (disch := omega) only [coreA, Int.reduceBEq, base_Vn, hv] <;> with_reducible rfl)) | (with_reducible first | refine Tl.brT ?_ | refine Tl.brF ?_ | refine Tl.gd_on ?_ | refine Tl.gd3_on ?_) | ((with_reducible first | apply Tl.brC | apply Tl.gdC | apply Tl.gd3C); focus (simp (disch := omega) only [coreA, Int.reduceBEq, base_Vn, hv] <;> with_reducible rfl)))
  refine f21_loop (k := k + 1008) PL hl l.length (i := 0) (cs := []) (by omega) (by omega) (by simp) (Stt.nil (Stt.init h) 1) fun outv y1 y2 y3 y4 h1 S1 => ?_
  rw [List.drop_zero, List.nil_append] at S1
  have hlen : (colsOf l).length ≤ 900 := by
    unfold colsOf
    rw [List.length_map]
    have := List.length_filter_le isCmp l
    omega
  have hsl : (sortedI (colsOf l)).length = (colsOf l).length := by unfold sortedI; rw [List.length_mergeSort]
  rcases S1.expose with ⟨rfl, hnil, S2⟩ | ⟨b, cs, e, rfl, hcs, he, S2⟩
  · have hc : colsOf l = [] := by
      have := congrArg List.length hnil
      rw [irows_len] at this
      exact List.length_eq_zero_iff.1 (by simpa using this)
    have hs : eInv env (k + 1009) (.func 43) #[] #[.slice none 0 0] h1 = some (.tuple #[], h1) := sort_call
    repeat (first | (with_reducible apply Tl.val; focus (simp (disch := omega) only [coreA, Int.reduceBEq, base_Vn, hs] <;> with_reducible rfl)) | (with_reducible first | refine Tl.brT ?_ | refine Tl.brF ?_ | refine Tl.gd_on ?_ | refine Tl.gd3_on ?_) | ((with_reducible first | apply Tl.brC | apply Tl.gdC | apply Tl.gd3C); focus (simp (disch := omega) only [coreA, Int.reduceBEq, base_Vn, hs] <;> with_reducible rfl)))
    rw [F44_call]
    unfold F44
    repeat (first | (with_reducible apply Tl.val; focus (simp (disch := omega) only [coreA, Int.reduceBEq, base_Vn, lenK] <;> with_reducible rfl)) | (with_reducible first | refine Tl.brT ?_ | refine Tl.brF ?_ | refine Tl.gd_on ?_ | refine Tl.gd3_on ?_) | ((with_reducible first | apply Tl.brC | apply Tl.gdC | apply Tl.gd3C); focus (simp (disch := omega) only [coreA, Int.reduceBEq, base_Vn, lenK] <;> with_reducible rfl)))
    refine ⟨_, rfl, .inl (.inl ⟨rfl, ?_⟩), S2.grow⟩
    have hs0 : sortedI (colsOf l) = [] := List.length_eq_zero_iff.1 (by rw [hsl, hc]; rfl)
    unfold colsM
    rw [hs0]
    rfl
  · rw [irows_len] at hcs ⊢
    obtain ⟨h2, ds, s1, S3, s2, s3⟩ := sort_known S2 rfl (by omega) hcs
    have hs : eInv env (k + 1009) (.func 43) #[] #[.slice (some ⟨b, 0, none⟩) (colsOf l).length (colsOf l).length] h1 = some (.tuple #[], h2) := by rw [sort_call]; exact s1
    repeat (first | (with_reducible apply Tl.val; focus (simp (disch := omega) only [coreA, Int.reduceBEq, base_Vn, hs] <;> with_reducible rfl)) | (with_reducible first | refine Tl.brT ?_ | refine Tl.brF ?_ | refine Tl.gd_on ?_ | refine Tl.gd3_on ?_) | ((with_reducible first | apply Tl.brC | apply Tl.gdC | apply Tl.gd3C); focus (simp (disch := omega) only [coreA, Int.reduceBEq, base_Vn, hs] <;> with_reducible rfl)))
    generalize hx : sortedI (colsOf l) = xs at s3 hsl
    generalize (colsOf l).length = n at *
    refine Tl.bind (f44k (k := k + 1008) he hsl (by omega) (by omega) s2 s3 S3) ?_
    rintro ⟨r, h3⟩ ⟨w, ds', er, hw, hl', hd', S4⟩
    simp only at er S4
    subst er
    have hwn : w ≤ n := by have := compactL_len xs; omega
    refine ⟨_, rfl, ?_, S4.grow⟩
    unfold colsM
    rw [hx]
    refine .inl (.inr ⟨b, 0, n, true, by rw [irows_len, hw], by rw [irows_len]; omega, ⟨⟨ds', e, S4.sta.mem.at_ (i := 0) rfl, fun _ => ⟨by rw [irows_len]; omega, ?_⟩⟩, fun r hr => by obtain ⟨x, _, rfl⟩ := List.mem_map.1 hr; rfl⟩⟩)
    rw [List.drop_zero, irows_len, ← hw, Nat.mul_one]
    have hfl : (irows (compactL xs)).flatten = (compactL xs).map iv := irows_flatI _
    rw [hfl]
    refine List.ext_getElem? fun t => ?_
    by_cases q : t < w
    · rw [List.getElem?_take_of_lt q, List.getElem?_map]
      exact hd' t q
    · rw [List.getElem?_eq_none (by simp; omega), List.getElem?_eq_none (by simp; omega)]
end Go.Proofs.Ytmhgihjmhmihpaa.Sh
