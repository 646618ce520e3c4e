/- 'PredThree' comes to true. -/
import Derived.Test.YtmhgihjmhmihpaaSzP1
import Derived.Test.YtmhgihjmhmihpaaSzVk
import Derived.Test.YtmhgihjmhmihpaaBits
set_option linter.unusedVariables false
set_option linter.unusedSimpArgs false
set_option maxRecDepth 100000
namespace Go.Proofs.Ytmhgihjmhmihpaa.Sh
open Go Go.RowKit Go.Proofs.Ev
theorem base_P3 : type_of% (And.intro @ld3 (And.intro @ld4 (And.intro @ld9 (And.intro @ld22 (And.intro @ld42 (And.intro @ld46 (And.intro @ld48 (And.intro @ld50 (And.intro @fa42_0 (And.intro @fa42_1 (And.intro @fa42_2 (And.intro @fa50_0 (And.intro @fa50_1 (And.intro @fa50_2 (And.intro @fa48_0 (And.intro @fa48_1 (And.intro @fa48_2 (And.intro @fa48_3 (And.intro @Nat.add_zero (And.intro (fun ox oy a b => bin_eql_bool (ox := ox) (oy := oy) (a := a) (b := b) u4) ((fun ox oy a b => bin_neq_bool (ox := ox) (oy := oy) (a := a) (b := b) u4)))))))))))))))))))))) := And.intro @ld3 (And.intro @ld4 (And.intro @ld9 (And.intro @ld22 (And.intro @ld42 (And.intro @ld46 (And.intro @ld48 (And.intro @ld50 (And.intro @fa42_0 (And.intro @fa42_1 (And.intro @fa42_2 (And.intro @fa50_0 (And.intro @fa50_1 (And.intro @fa50_2 (And.intro @fa48_0 (And.intro @fa48_1 (And.intro @fa48_2 (And.intro @fa48_3 (And.intro @Nat.add_zero (And.intro (fun ox oy a b => bin_eql_bool (ox := ox) (oy := oy) (a := a) (b := b) u4) ((fun ox oy a b => bin_neq_bool (ox := ox) (oy := oy) (a := a) (b := b) u4)))))))))))))))))))))
theorem f20c {k : Nat} (n : Int) (m : Nat) (h1 : 1 ≤ m) (h2 : m ≤ 100000) : ∃ w : Nat, w < m ∧ ∀ h, eInv env (k + 1) (.func 20) #[] #[.int .i64 n, .int .i64 m] h = some (.int .i64 w, h) := by
  have r1 := Int.tmod_lt_of_pos n (show (0 : Int) < m by omega)
  have r2 : -(m : Int) < n.tmod m := by
    have h1 := Int.tmod_lt_of_pos (-n) (show (0 : Int) < m by omega)
    rw [Int.neg_tmod] at h1
    omega
  have rm : ∀ t x y, pBin Try.prog Go.BinOp.rem t x y (.int .i64 n) (.int .i64 m) = some (.int .i64 (n.tmod m)) := fun t x y => bin_rem (by omega)
  refine ⟨if n.tmod m < 0 then (n.tmod m + m).toNat else (n.tmod m).toNat, by split <;> omega, fun h => ?_⟩
  have T : Tl (F20 (eInv env k) k (.int .i64 n) (.int .i64 m) h) fun r => r = (.int .i64 ((if n.tmod m < 0 then (n.tmod m + m).toNat else (n.tmod m).toNat : Nat) : Int), h) := by
    unfold F20
    by_cases q : n.tmod m < 0
    · rw [if_pos q]
      repeat (first | (with_reducible apply Tl.val; focus (simp (disch := omega) only [coreA, Int.reduceBEq, base_P3, rm] <;> with_reducible rfl)) | (with_reducible first | refine Tl.brT ?_ | refine Tl.brF ?_ | refine Tl.gd_on ?_ | refine Tl.gd3_on ?_) | ((with_reducible first | apply Tl.brC | apply Tl.gdC | apply Tl.gd3C); focus (simp (disch := omega) only [coreA, Int.reduceBEq, base_P3, rm] <;> with_reducible rfl)))
      unfold F20_rlrrr
      repeat (first | (with_reducible apply Tl.val; focus (simp (disch := omega) only [coreA, Int.reduceBEq, base_P3] <;> with_reducible rfl)) | (with_reducible first | refine Tl.brT ?_ | refine Tl.brF ?_ | refine Tl.gd_on ?_ | refine Tl.gd3_on ?_) | ((with_reducible first | apply Tl.brC | apply Tl.gdC | apply Tl.gd3C); focus (simp (disch := omega) only [coreA, Int.reduceBEq, base_P3] <;> with_reducible rfl)))
      exact ⟨_, rfl, by congr 2; omega⟩
    · rw [if_neg q]
      repeat (first | (with_reducible apply Tl.val; focus (simp (disch := omega) only [coreA, Int.reduceBEq, base_P3, rm] <;> with_reducible rfl)) | (with_reducible first | refine Tl.brT ?_ | refine Tl.brF ?_ | refine Tl.gd_on ?_ | refine Tl.gd3_on ?_) | ((with_reducible first | apply Tl.brC | apply Tl.gdC | apply Tl.gd3C); focus (simp (disch := omega) only [coreA, Int.reduceBEq, base_P3, rm] <;> with_reducible rfl)))
      unfold F20_rlrrr
      repeat (first | (with_reducible apply Tl.val; focus (simp (disch := omega) only [coreA, Int.reduceBEq, base_P3] <;> with_reducible rfl)) | (with_reducible first | refine Tl.brT ?_ | refine Tl.brF ?_ | refine Tl.gd_on ?_ | refine Tl.gd3_on ?_) | ((with_reducible first | apply Tl.brC | apply Tl.gdC | apply Tl.gd3C); focus (simp (disch := omega) only [coreA, Int.reduceBEq, base_P3] <;> with_reducible rfl)))
      exact ⟨_, rfl, by congr 2; omega⟩
  obtain ⟨r, h3, h4⟩ := T
  rw [F20_call, h3, h4]
def ops4 : List Int := [2, 3, 4, 5]
def nodeOf (c : Nat) (v : CellD) (op : Int) : NodeD := ⟨op, c, if op = 5 then cellZ else v, []⟩
theorem bd48_3 (op c : Int) (v : CellD) : pBuild Try.prog 48 #[(0, .int .i64 op), (1, .int .i64 c), (2, .agg (crow v).toArray)] = some (.agg (nrow ⟨op, c, v, []⟩ (.slice none 0 0)).toArray) := by kernel_rfl
theorem bs46_4 (h : AH) : pBuildSlice Try.prog 46 4 #[(0, .int .i64 2), (1, .int .i64 3), (2, .int .i64 4), (3, .int .i64 5)] h = some (.slice (some ⟨h.n, 0, none⟩) 4 4, h.alloc (.cells [.int .i64 2, .int .i64 3, .int .i64 4, .int .i64 5] 3 true)) := by kernel_rfl
theorem holds_one (row : List CellD) (nd : NodeD) (h : nd.parts = []) : holdsB row [nd] = tellB row nd [] := by
  unfold holdsB
  rw [if_neg (by simp)]
  simp [goneL, h]
/-- 'Check' of one comparison. -/
theorem predOk_one {cols : List ColD} {c : Nat} {cd : ColD} {v : CellD} {op : Int} (ho : 2 ≤ op ∧ op ≤ 4) (hc : colsOk cols = true) (ec : cols[c]? = some cd) (hv : cellOk v = true) : predOk cols [nodeOf c v op] = decide (v.k = cd.kind) := by
  have hcl := (List.getElem?_eq_some_iff.1 ec).1
  have h5 : ¬ op = 5 := by omega
  have e1 : nodeOf c v op = ⟨op, c, v, []⟩ := by unfold nodeOf; rw [if_neg h5]
  have e2 : nodeOk cols ⟨op, c, v, []⟩ = decide (v.k = cd.kind) := by
    have a : colOk cols ⟨op, c, v, []⟩ = true := by
      unfold colOk
      rw [if_pos ⟨ho.1, by have := ho.2; show op ≤ 5; omega⟩]
      exact decide_eq_true ⟨by show (0 : Int) ≤ c; omega, by show (c : Int) < cols.length; omega⟩
    have b : partsOk op 0 = true := by
      unfold partsOk
      rw [if_pos (by omega)]
      rfl
    have c' : valueOk cols ⟨op, c, v, []⟩ = decide (v.k = cd.kind) := by
      unfold valueOk
      rw [if_pos ho]
      show (cellOk v && match cols[(c : Int).toNat]? with
        | some c => decide (v.k = c.kind)
        | none => false) = _
      rw [show ((c : Int).toNat) = c by omega, ec, hv, Bool.true_and]
    unfold nodeOk
    rw [a, c', Bool.true_and]
    show (_ && partsOk op 0) = _
    rw [b, Bool.and_true]
  unfold predOk
  rw [hc, e1, Bool.true_and]
  simp only [List.length_cons, List.length_nil, checkF, e2]
  by_cases q : v.k = cd.kind
  · simp [q, usePs]
  · simp [q]
theorem three {row : List CellD} {c : Nat} {x v : CellD} (ex : row[c]? = some x) : tellB row (nodeOf c v 2) [] = (x.k != 0 && (x.cmp v == 0)) ∧ tellB row (nodeOf c v 3) [] = (x.k != 0 && decide (x.cmp v < 0)) ∧ tellB row (nodeOf c v 4) [] = (x.k != 0 && decide (x.cmp v > 0)) ∧ tellB row (nodeOf c v 5) [] = (x.k == 0) := by
  have key : ∀ nd : NodeD, nd.col = c → row[nd.col.toNat]? = some x := fun nd h => by rw [h, show ((c : Int)).toNat = c by omega, ex]
  refine ⟨?_, ?_, ?_, ?_⟩ <;> simp [tellB, nodeOf, leafB, ex, ordB]
abbrev KB := (Value → Value → Value → Value → Value → Value → Value → Value → Value → Value → AH → Option (Value × AH))
theorem f5_loop {k : Nat} {Q : Value × AH → Prop} {h0 : AH} {cv rv : Value} {b7 b43 c : Nat} {cols : List ColD} {row : List CellD} {v : CellD} {cd : ColD} (C : Cols h0 cv cols) (R : Cells h0 rv row) (hr : row.length ≤ 2 ^ 40)
    (hc : colsOk cols = true) (ec : cols[c]? = some cd) (hcl : cols.length ≤ 16) (hv : cellOk v = true) (hvr : cellR v) {ke0 : KB} {kr : Value → AH → Option (Value × AH)} (n : Nat) :
    ∀ {i j : Nat} {Fz : List (Nat × AO)} {vs : List Value} {allv : Value} {cnt : Nat} {h : AH}, i + n = 4 → n < j → vs.length = i → cnt ≤ i → All2 (fun pv l => ∀ h', Mem h' Fz → Preds h' pv l) vs ((ops4.take i).map fun op => [nodeOf c v op]) →
      Stt Try.prog h0.n h0 h ((b7, .cells (crow v) 42 true) :: (b43, .cells [.int .i64 2, .int .i64 3, .int .i64 4, .int .i64 5] 3 true) :: Fz) [(allv, 1, vs.map fun v => [v])] →
      (∀ h' Fz' vs' allv' y1 y2 y3 y4, All2 (fun pv l => ∀ h', Mem h' Fz' → Preds h' pv l) vs' (ops4.map fun op => [nodeOf c v op]) →
        Stt Try.prog h0.n h0 h' ((b7, .cells (crow v) 42 true) :: (b43, .cells [.int .i64 2, .int .i64 3, .int .i64 4, .int .i64 5] 3 true) :: Fz') [(allv', 1, vs'.map fun v => [v])] →
        Tl (ke0 cv rv (.pointer (some ⟨b7, 0, none⟩)) (.int .i64 c) (.int .i64 (cnt + (((ops4.drop i).filter fun op => tellB row (nodeOf c v op) []).length : Nat) : Nat)) allv' y1 y2 y3 y4 h') Q) →
      Tl (F5_lrlrrrrrr (eInv env (k + 2000)) (k + 2000) j cv rv (.pointer (some ⟨b7, 0, none⟩)) (.int .i64 c) (.int .i64 cnt) allv (.slice (some ⟨b43, 0, none⟩) 4 4) (.int .i64 4) (.int .i64 i) h ke0 kr) Q := by
  induction n with
  | zero =>
    intro i j Fz vs allv cnt h hi hj hvs hcn A S hk
    obtain ⟨j, rfl⟩ : ∃ q, j = q + 1 := ⟨j - 1, by omega⟩
    have : i = 4 := by omega
    subst this
    simp only [F5_lrlrrrrrr]
    repeat (first | (with_reducible apply Tl.val; focus (simp (disch := omega) only [coreA, Int.reduceBEq, base_P3] <;> with_reducible rfl)) | (with_reducible first | refine Tl.brT ?_ | refine Tl.brF ?_ | refine Tl.gd_on ?_ | refine Tl.gd3_on ?_) | ((with_reducible first | apply Tl.brC | apply Tl.gdC | apply Tl.gd3C); focus (simp (disch := omega) only [coreA, Int.reduceBEq, base_P3] <;> with_reducible rfl)))
    exact hk _ _ _ _ _ _ _ _ A S
  | succ n ih =>
    intro i j Fz vs allv cnt h hi hj hvs hcn A S hk
    obtain ⟨j, rfl⟩ : ∃ q, j = q + 1 := ⟨j - 1, by omega⟩
    obtain ⟨op, eo⟩ : ∃ op, ops4[i]? = some op := ⟨_, List.getElem?_eq_getElem (by show i < 4; omega)⟩
    have hop : 2 ≤ op ∧ op ≤ 5 := by
      have := List.mem_of_getElem? eo
      simp [ops4] at this
      omega
    have I4 : IntsZ h (.slice (some ⟨b43, 0, none⟩) 4 4) ops4 := (S.sub 1 (rows := irows ops4) (n := 1) (cap := 4) rfl (fun r hr => by obtain ⟨x, _, rfl⟩ := List.mem_map.1 hr; rfl) (by decide) (by decide) rfl).z
    obtain ⟨bo, oo, hp, hco⟩ := I4.at_ eo
    have r7 : h.row b7 0 3 = some (crow v) := S.row 0 rfl rfl
    have e : (i : Int) + 1 = ((i + 1 : Nat) : Int) := by omega
    rw [drop_at eo] at hk
    simp only [F5_lrlrrrrrr]
    repeat (first | (with_reducible apply Tl.val; focus (simp (disch := omega) only [coreA, Int.reduceBEq, base_P3, hp, hco, r7, bd48_3] <;> with_reducible rfl)) | (with_reducible first | refine Tl.brT ?_ | refine Tl.brF ?_ | refine Tl.gd_on ?_ | refine Tl.gd3_on ?_) | ((with_reducible first | apply Tl.brC | apply Tl.gdC | apply Tl.gd3C); focus (simp (disch := omega) only [coreA, Int.reduceBEq, base_P3, hp, hco, r7, bd48_3] <;> with_reducible rfl)))
    refine Tl.alloc' S ze48 (by rfl) fun b14 h1 S1 g1 => ?_
    refine Tl.store' S1 0 rfl sz48 rfl rfl (by simp [Value.cells]) fun h2 S2 k2 => ?_
    have S2 : Stt Try.prog h0.n h0 h2 ((b14, .cells (nrow ⟨op, c, v, []⟩ (.slice none 0 0)) 48 true) :: (b7, .cells (crow v) 42 true) :: (b43, .cells [.int .i64 2, .int .i64 3, .int .i64 4, .int .i64 5] 3 true) :: Fz) [(allv, 1, vs.map fun v => [v])] := S2
    unfold F5_rlrrllrrllrlrrrrrr
    -- behind the node
    have main : ∀ (h3 : AH) (x13 : Value), x13 = .int .i64 op → Stt Try.prog h0.n h0 h3 ((b14, .cells (nrow (nodeOf c v op) (.slice none 0 0)) 48 true) :: (b7, .cells (crow v) 42 true) :: (b43, .cells [.int .i64 2, .int .i64 3, .int .i64 4, .int .i64 5] 3 true) :: Fz) [(allv, 1, vs.map fun v => [v])] →
        Tl (bnd (pLoad Try.prog 48 (.pointer (some ⟨b14, 0, none⟩)) h3) fun x57 =>
    bnd (pBuildSlice Try.prog 22 1 #[(0, x57)] h3) fun x58 =>
    G5_15 (eInv env (k + 2000)) cv rv (.pointer (some ⟨b7, 0, none⟩)) (.int .i64 c) (.int .i64 cnt) allv x13 x58.1 (.slice (some ⟨b43, 0, none⟩) 4 4) (.int .i64 4) (.int .i64 i) x58.2 fun y75 h_1 =>
    brV y75
    (kr (.bool false) h_1)
    (bnd (eInv env (k + 2000) (.func 11) #[] #[x58.1, rv] h_1) fun x78 =>
    F5_rlrrrrrllrrllrlrrrrrr (eInv env (k + 2000)) (k + 2000) cv rv (.pointer (some ⟨b7, 0, none⟩)) (.int .i64 c) (.int .i64 cnt) allv x58.1 (.slice (some ⟨b43, 0, none⟩) 4 4) (.int .i64 4) (.int .i64 i) x78.1 x78.2
    (fun y0_2 y1_3 y7_4 y9_5 y10_6 y11_7 y15 y43_8 y44_9 y45_10 y78 h_11 =>
    bnd (pBuildSlice Try.prog 45 1 #[(0, y15)] h_11) fun x83 =>
    bnd (pAppend Try.prog #[45, 45] y11_7 x83.1 x83.2) fun x84 =>
    bnd (pBin Try.prog .add 3 (.tmp 45) (.const (.int .i64 1)) y45_10 (.int .i64 1)) fun x85 =>
    F5_lrlrrrrrr (eInv env (k + 2000)) (k + 2000) j y0_2 y1_3 y7_4 y9_5 y10_6 x84.1 y43_8 y44_9 x85 x84.2 ke0 kr))) Q := by
      rintro h3 x13 rfl S3
      have r6 : h3.row b14 0 6 = some (nrow (nodeOf c v op) (.slice none 0 0)) := S3.row 0 rfl rfl
      have S4 := S3.alloc (.cells (nrow (nodeOf c v op) (.slice none 0 0)) 48 true)
      have hbs := bsP (nodeOf c v op) none 0 0 h3
      have g34 := Grow.alloc h3 (.cells (nrow (nodeOf c v op) (.slice none 0 0)) 48 true)
      generalize h3.alloc (.cells (nrow (nodeOf c v op) (.slice none 0 0)) 48 true) = h4 at S4 hbs g34
      have PL : ∀ h', Mem h' [(h3.n, AO.cells (nrow (nodeOf c v op) (.slice none 0 0)) 48 true)] → Preds h' (.slice (some ⟨h3.n, 0, none⟩) 1 1) [nodeOf c v op] := fun h' hm =>
        ⟨[nrow (nodeOf c v op) (.slice none 0 0)], .inl (.inr ⟨h3.n, 0, 1, true, rfl, Nat.le_refl _, ⟨⟨_, 48, hm.1, fun _ => ⟨by simp [nrow], by simp [nrow]⟩⟩, fun r hr => by simp at hr; rw [hr]; rfl⟩⟩), ⟨⟨_, rfl, .inl (.inl ⟨rfl, rfl⟩)⟩, trivial⟩⟩
      have P4 := PL h4 ⟨S4.sta.mem.at_ (i := 0) rfl, trivial⟩
      have hlight : ∀ nd ∈ [nodeOf c v op], nd.parts.length ≤ 900 := fun nd hnd => by simp at hnd; subst hnd; simp [nodeOf]
      have fin : ∀ h5, Stt Try.prog h0.n h0 h5 ((h3.n, .cells (nrow (nodeOf c v op) (.slice none 0 0)) 48 true) :: (b14, .cells (nrow (nodeOf c v op) (.slice none 0 0)) 48 true) :: (b7, .cells (crow v) 42 true) :: (b43, .cells [.int .i64 2, .int .i64 3, .int .i64 4, .int .i64 5] 3 true) :: Fz) [(allv, 1, vs.map fun v => [v])] →
          Tl (bnd (eInv env (k + 2000) (.func 11) #[] #[.slice (some ⟨h3.n, 0, none⟩) 1 1, rv] h5) fun x78 =>
    F5_rlrrrrrllrrllrlrrrrrr (eInv env (k + 2000)) (k + 2000) cv rv (.pointer (some ⟨b7, 0, none⟩)) (.int .i64 c) (.int .i64 cnt) allv (.slice (some ⟨h3.n, 0, none⟩) 1 1) (.slice (some ⟨b43, 0, none⟩) 4 4) (.int .i64 4) (.int .i64 i) x78.1 x78.2
    (fun y0_2 y1_3 y7_4 y9_5 y10_6 y11_7 y15 y43_8 y44_9 y45_10 y78 h_11 =>
    bnd (pBuildSlice Try.prog 45 1 #[(0, y15)] h_11) fun x83 =>
    bnd (pAppend Try.prog #[45, 45] y11_7 x83.1 x83.2) fun x84 =>
    bnd (pBin Try.prog .add 3 (.tmp 45) (.const (.int .i64 1)) y45_10 (.int .i64 1)) fun x85 =>
    F5_lrlrrrrrr (eInv env (k + 2000)) (k + 2000) j y0_2 y1_3 y7_4 y9_5 y10_6 x84.1 y43_8 y44_9 x85 x84.2 ke0 kr)) Q := by
        intro h5 S5
        have P5 := PL h5 ⟨S5.sta.mem.at_ (i := 0) rfl, trivial⟩
        refine Tl.call' S5 (f11c (k := k + 800) P5 (R.grow S5.grow) (by simp) hlight (by omega)) fun h6 S6 g6 => ?_
        rw [holds_one row (nodeOf c v op) rfl]
        unfold F5_rlrrrrrllrrllrlrrrrrr
        have step : ∀ cnt' : Nat, (tellB row (nodeOf c v op) [] = true → cnt' = cnt + 1) → (tellB row (nodeOf c v op) [] = false → cnt' = cnt) → Tl (bnd (pBuildSlice Try.prog 45 1 #[(0, .slice (some ⟨h3.n, 0, none⟩) 1 1)] h6) fun x83 =>
            bnd (pAppend Try.prog #[45, 45] allv x83.1 x83.2) fun x84 =>
            bnd (pBin Try.prog .add 3 (.tmp 45) (.const (.int .i64 1)) (.int .i64 i) (.int .i64 1)) fun x85 =>
            F5_lrlrrrrrr (eInv env (k + 2000)) (k + 2000) j cv rv (.pointer (some ⟨b7, 0, none⟩)) (.int .i64 c) (.int .i64 cnt') x84.1 (.slice (some ⟨b43, 0, none⟩) 4 4) (.int .i64 4) x85 x84.2 ke0 kr) Q := by
          intro cnt' ht hf
          refine Tl.push S6 0 rfl app45 (bs45 _ _ _ _) rfl rfl (by simp; omega) fun allv' h7 S7 => ?_
          repeat (first | (with_reducible apply Tl.val; focus (simp (disch := omega) only [coreA, Int.reduceBEq, base_P3] <;> with_reducible rfl)) | (with_reducible first | refine Tl.brT ?_ | refine Tl.brF ?_ | refine Tl.gd_on ?_ | refine Tl.gd3_on ?_) | ((with_reducible first | apply Tl.brC | apply Tl.gdC | apply Tl.gd3C); focus (simp (disch := omega) only [coreA, Int.reduceBEq, base_P3] <;> with_reducible rfl)))
          rw [e]
          have S8 : Stt Try.prog h0.n h0 h7 ((b7, .cells (crow v) 42 true) :: (b43, .cells [.int .i64 2, .int .i64 3, .int .i64 4, .int .i64 5] 3 true) :: ([(h3.n, .cells (nrow (nodeOf c v op) (.slice none 0 0)) 48 true)] ++ Fz)) [(allv', 1, (vs ++ [Value.slice (some ⟨h3.n, 0, none⟩) 1 1]).map fun v => [v])] := by
            rw [List.map_append]
            have S7 := (S7.perm (List.Perm.swap _ _ _)).drop
            refine S7.perm ?_
            refine (List.Perm.swap _ _ _).trans ?_
            refine (List.Perm.cons _ (List.Perm.swap _ _ _)).trans ?_
            exact List.Perm.refl _
          have et : (ops4.take (i + 1)) = ops4.take i ++ [op] := by rw [List.take_add_one, eo]; rfl
          refine ih (cnt := cnt') (by omega) (by omega) (by simp [hvs]) (by
            cases q : tellB row (nodeOf c v op) [] with
            | true => have := ht q; omega
            | false => have := hf q; omega) (by
            rw [et, List.map_append]
            exact (A.mono fun pv l hpl h' hm => hpl h' (Mem.app.1 hm).2).snoc fun h' hm => PL h' (Mem.app.1 hm).1) S8 fun h' Fz' vs' allv' y1 y2 y3 y4 A' S' => ?_
          have := hk h' Fz' vs' allv' y1 y2 y3 y4 A' S'
          have ec : cnt' + ((ops4.drop (i + 1)).filter fun op => tellB row (nodeOf c v op) []).length = cnt + ((op :: ops4.drop (i + 1)).filter fun op => tellB row (nodeOf c v op) []).length := by
            rw [List.filter_cons]
            cases q : tellB row (nodeOf c v op) [] with
            | true => rw [ht q]; simp; omega
            | false => rw [hf q]; simp
          rw [ec]
          exact this
        cases q : tellB row (nodeOf c v op) [] with
        | true =>
          repeat (first | (with_reducible apply Tl.val; focus (simp (disch := omega) only [coreA, Int.reduceBEq, base_P3] <;> with_reducible rfl)) | (with_reducible first | refine Tl.brT ?_ | refine Tl.brF ?_ | refine Tl.gd_on ?_ | refine Tl.gd3_on ?_) | ((with_reducible first | apply Tl.brC | apply Tl.gdC | apply Tl.gd3C); focus (simp (disch := omega) only [coreA, Int.reduceBEq, base_P3] <;> with_reducible rfl)))
          have := step (cnt + 1) (fun _ => rfl) (fun h => by rw [q] at h; cases h)
          rw [show ((cnt : Int) + 1) = ((cnt + 1 : Nat) : Int) by omega]
          exact this
        | false =>
          repeat (first | (with_reducible apply Tl.val; focus (simp (disch := omega) only [coreA, Int.reduceBEq, base_P3] <;> with_reducible rfl)) | (with_reducible first | refine Tl.brT ?_ | refine Tl.brF ?_ | refine Tl.gd_on ?_ | refine Tl.gd3_on ?_) | ((with_reducible first | apply Tl.brC | apply Tl.gdC | apply Tl.gd3C); focus (simp (disch := omega) only [coreA, Int.reduceBEq, base_P3] <;> with_reducible rfl)))
          exact step cnt (fun h => by rw [q] at h; cases h) (fun _ => rfl)
      by_cases q5 : op = 5
      · have q5' : (op != 5) = false := by simp [q5]
        repeat (first | (with_reducible apply Tl.val; focus (simp (disch := omega) only [coreA, Int.reduceBEq, base_P3, r6, hbs, q5'] <;> with_reducible rfl)) | (with_reducible first | refine Tl.brT ?_ | refine Tl.brF ?_ | refine Tl.gd_on ?_ | refine Tl.gd3_on ?_) | ((with_reducible first | apply Tl.brC | apply Tl.gdC | apply Tl.gd3C); focus (simp (disch := omega) only [coreA, Int.reduceBEq, base_P3, r6, hbs, q5'] <;> with_reducible rfl)))
        exact fin h4 S4
      · have q5' : (op != 5) = true := by simp [q5]
        have hp1 := predOk_one (cols := cols) (v := v) ⟨hop.1, by omega⟩ hc ec hv
        obtain ⟨bc, oc, hpc, hrc⟩ := C.at_ ec
        repeat (first | (with_reducible apply Tl.val; focus (simp (disch := omega) only [coreA, Int.reduceBEq, base_P3, r6, hbs, q5'] <;> with_reducible rfl)) | (with_reducible first | refine Tl.brT ?_ | refine Tl.brF ?_ | refine Tl.gd_on ?_ | refine Tl.gd3_on ?_) | ((with_reducible first | apply Tl.brC | apply Tl.gdC | apply Tl.gd3C); focus (simp (disch := omega) only [coreA, Int.reduceBEq, base_P3, r6, hbs, q5'] <;> with_reducible rfl)))
        refine Tl.bind (f15c (k := k + 700) (C.grow S4.grow) (by omega) P4 (by simp) fun nd hnd => ⟨hlight nd hnd, ?_⟩) ?_
        · simp at hnd
          subst hnd
          show cellR (if op = 5 then cellZ else v)
          rw [if_neg q5]
          exact hvr
        · rintro ⟨r, h5⟩ ⟨⟨er, err, he⟩, g5⟩
          simp only at err g5
          subst err
          have S5 := S4.call g5
          have d7 : h4.cell b7 0 = some (.int .i64 v.k) := S4.cell 2 rfl rfl
          have e7 : h5.cell b7 0 = some (.int .i64 v.k) := S5.cell 2 rfl rfl
          have dk : h4.cell bc (oc + 1) = some (.int .i64 cd.kind) := Ev.cell_of_row (j := 1) (S4.grow.row hrc) (by omega)
          have ek : h5.cell bc (oc + 1) = some (.int .i64 cd.kind) := Ev.cell_of_row (j := 1) (S5.grow.row hrc) (by omega)
          rw [hp1, decide_eq_true_iff] at he
          have hee : (er == 0) = (v.k == cd.kind) := by
            by_cases q6 : v.k = cd.kind
            · rw [beq_t (he.2 q6), beq_t q6]
            · rw [beq_f (fun q7 => q6 (he.1 q7)), beq_f q6]
          have hne : ((v.k == cd.kind) != (v.k == cd.kind)) = false := by simp
          repeat (first | (with_reducible apply Tl.val; focus (simp (disch := omega) only [coreA, Int.reduceBEq, base_P3, e7, hpc, ek, hee, hne] <;> with_reducible rfl)) | (with_reducible first | refine Tl.brT ?_ | refine Tl.brF ?_ | refine Tl.gd_on ?_ | refine Tl.gd3_on ?_) | ((with_reducible first | apply Tl.brC | apply Tl.gdC | apply Tl.gd3C); focus (simp (disch := omega) only [coreA, Int.reduceBEq, base_P3, e7, hpc, ek, hee, hne] <;> with_reducible rfl)))
          refine Tl.chk ?_ ?_
          · simp only [ld3, d7, e7, dk, ek, Nat.add_zero, sameO_some, sameV_int, Bool.and_self, Bool.not_true, Bool.or_true, Bool.false_or, Bool.true_and]
          repeat (first | (with_reducible apply Tl.val; focus (simp (disch := omega) only [coreA, Int.reduceBEq, base_P3] <;> with_reducible rfl)) | (with_reducible first | refine Tl.brT ?_ | refine Tl.brF ?_ | refine Tl.gd_on ?_ | refine Tl.gd3_on ?_) | ((with_reducible first | apply Tl.brC | apply Tl.gdC | apply Tl.gd3C); focus (simp (disch := omega) only [coreA, Int.reduceBEq, base_P3] <;> with_reducible rfl)))
          exact fin h5 S5
    by_cases q5 : op = 5
    · have q5' : (op == 5) = true := beq_t q5
      repeat (first | (with_reducible apply Tl.val; focus (simp (disch := omega) only [coreA, Int.reduceBEq, base_P3, q5', bdC0] <;> with_reducible rfl)) | (with_reducible first | refine Tl.brT ?_ | refine Tl.brF ?_ | refine Tl.gd_on ?_ | refine Tl.gd3_on ?_) | ((with_reducible first | apply Tl.brC | apply Tl.gdC | apply Tl.gd3C); focus (simp (disch := omega) only [coreA, Int.reduceBEq, base_P3, q5', bdC0] <;> with_reducible rfl)))
      refine Tl.store' S2 0 rfl sz42 rfl rfl (by simp [nrow, Value.cells, CellD.v]) fun h3 S3 k3 => ?_
      refine main h3 _ rfl ?_
      have en : nodeOf c v op = ⟨op, c, cellZ, []⟩ := by unfold nodeOf; rw [if_pos q5]
      rw [en]
      exact S3
    · have q5' : (op == 5) = false := beq_f q5
      repeat (first | (with_reducible apply Tl.val; focus (simp (disch := omega) only [coreA, Int.reduceBEq, base_P3, q5'] <;> with_reducible rfl)) | (with_reducible first | refine Tl.brT ?_ | refine Tl.brF ?_ | refine Tl.gd_on ?_ | refine Tl.gd3_on ?_) | ((with_reducible first | apply Tl.brC | apply Tl.gdC | apply Tl.gd3C); focus (simp (disch := omega) only [coreA, Int.reduceBEq, base_P3, q5'] <;> with_reducible rfl)))
      refine main h2 _ rfl ?_
      have en : nodeOf c v op = ⟨op, c, v, []⟩ := by unfold nodeOf; rw [if_neg q5]
      rw [en]
      exact S2
theorem cmp3 (x v : CellD) : (x.cmp v = 0 ∧ ¬ x.cmp v < 0 ∧ ¬ x.cmp v > 0) ∨ (¬ x.cmp v = 0 ∧ x.cmp v < 0 ∧ ¬ x.cmp v > 0) ∨ (¬ x.cmp v = 0 ∧ ¬ x.cmp v < 0 ∧ x.cmp v > 0) := by omega
/-- Just one of the four. -/
theorem just_one {row : List CellD} {c : Nat} {x v : CellD} (ex : row[c]? = some x) :
    ((ops4.filter fun op => tellB row (nodeOf c v op) []).length = 1) ∧ ((ops4.map fun op => holdsB row [nodeOf c v op]).contains true = true) := by
  obtain ⟨t2, t3, t4, t5⟩ := three (v := v) ex
  have eh : (ops4.map fun op => holdsB row [nodeOf c v op]) = ops4.map fun op => tellB row (nodeOf c v op) [] := List.map_congr_left fun op _ => holds_one row _ rfl
  rw [eh]
  unfold ops4
  simp only [List.filter_cons, List.filter_nil, List.map_cons, List.map_nil, t2, t3, t4, t5]
  by_cases q : x.k = 0
  · simp [q]
  · rcases cmp3 x v with ⟨a, b, c⟩ | ⟨a, b, c⟩ | ⟨a, b, c⟩ <;> simp [q, a, b, c]
theorem bs45_1 (a : Option Addr) (m c : Nat) (h : AH) : pBuildSlice Try.prog 45 1 #[(0, .slice a m c)] h = some (.slice (some ⟨h.n, 0, none⟩) 1 1, h.alloc (.cells [.slice a m c] 22 true)) := by kernel_rfl
theorem Preds.form {h : AH} {v : Value} {l : List NodeD} (S : Preds h v l) : ∃ a m c, v = .slice a m c := by
  obtain ⟨rows, X, _⟩ := S
  obtain ⟨a, c, e, _⟩ := X.form
  exact ⟨a, _, c, e⟩
theorem f5 {k : Nat} {h : AH} {cv rv : Value} {cols : List ColD} {row : List CellD} (col : Int) (v : CellD) (C : Cols h cv cols) (R : Cells h rv row) (hcl : cols.length ≤ 9223372036854775807) (hr : row.length ≤ 9223372036854775807) (hvr : cellR v) (kc : cols.length < k) (kr : row.length < k) :
    Tl (F5 (eInv env (k + 3000)) (k + 3000) cv rv (.int .i64 col) v.v h) fun r => r.1 = .bool true := by
  unfold F5
  refine Tl.box' (Stt.init h) rfl (by rw [sz42]; rfl) fun b7 h1 S1 g1 => ?_
  have S1 : Stt Try.prog h.n h h1 [(b7, .cells (crow v) 42 true)] [] := S1
  have hl := lives_call (k := k + 2999) (h := h1)
  have pc := f13c (k := k + 2999) (C.grow g1) hcl (by omega)
  have pr := f9c (k := k + 2999) (R.grow g1) hr (by omega)
  have done : ∀ h' : AH, Tl (some (Value.bool true, h')) fun r => r.1 = Value.bool true := fun h' => ⟨_, rfl, rfl⟩
  cases qc : lightC cols with
  | false =>
    rw [qc] at pc
    repeat (first | (with_reducible apply Tl.val; focus (simp (disch := omega) only [coreA, Int.reduceBEq, base_P3, hl, pc] <;> with_reducible rfl)) | (with_reducible first | refine Tl.brT ?_ | refine Tl.brF ?_ | refine Tl.gd_on ?_ | refine Tl.gd3_on ?_) | ((with_reducible first | apply Tl.brC | apply Tl.gdC | apply Tl.gd3C); focus (simp (disch := omega) only [coreA, Int.reduceBEq, base_P3, hl, pc] <;> with_reducible rfl)))
    exact done _
  | true =>
    rw [qc] at pc
    cases qr : lightR row with
    | false =>
      rw [qr] at pr
      repeat (first | (with_reducible apply Tl.val; focus (simp (disch := omega) only [coreA, Int.reduceBEq, base_P3, hl, pc, pr] <;> with_reducible rfl)) | (with_reducible first | refine Tl.brT ?_ | refine Tl.brF ?_ | refine Tl.gd_on ?_ | refine Tl.gd3_on ?_) | ((with_reducible first | apply Tl.brC | apply Tl.gdC | apply Tl.gd3C); focus (simp (disch := omega) only [coreA, Int.reduceBEq, base_P3, hl, pc, pr] <;> with_reducible rfl)))
      exact done _
    | true =>
      rw [qr] at pr
      repeat (first | (with_reducible apply Tl.val; focus (simp (disch := omega) only [coreA, Int.reduceBEq, base_P3, hl, pc, pr] <;> with_reducible rfl)) | (with_reducible first | refine Tl.brT ?_ | refine Tl.brF ?_ | refine Tl.gd_on ?_ | refine Tl.gd3_on ?_) | ((with_reducible first | apply Tl.brC | apply Tl.gdC | apply Tl.gd3C); focus (simp (disch := omega) only [coreA, Int.reduceBEq, base_P3, hl, pc, pr] <;> with_reducible rfl)))
      refine Tl.bind (f16c (k := k + 2700) (C.grow g1) (R.grow g1) hcl hr) ?_
      rintro ⟨r, h2⟩ ⟨⟨e, er, he⟩, g2⟩
      simp only at er g2
      subst er
      have S2 := S1.call g2
      by_cases qe : e = 0
      · have hrow := he.1 qe
        unfold rowOk at hrow
        rw [Bool.and_eq_true, Bool.and_eq_true, decide_eq_true_iff] at hrow
        obtain ⟨hco, hlen, hfit⟩ := hrow
        have hc16 : 1 ≤ cols.length ∧ cols.length ≤ 16 := by
          unfold colsOk at hco
          simp at hco
          omega
        have r7 : h2.row b7 0 3 = some (crow v) := S2.row 0 rfl rfl
        repeat (first | (with_reducible apply Tl.val; focus (simp (disch := omega) only [coreA, Int.reduceBEq, base_P3, r7] <;> with_reducible rfl)) | (with_reducible first | refine Tl.brT ?_ | refine Tl.brF ?_ | refine Tl.gd_on ?_ | refine Tl.gd3_on ?_) | ((with_reducible first | apply Tl.brC | apply Tl.gdC | apply Tl.gd3C); focus (simp (disch := omega) only [coreA, Int.reduceBEq, base_P3, r7] <;> with_reducible rfl)))
        refine Tl.call' S2 (f19c (k := k + 2999) v h2) fun h3 S3 g3 => ?_
        cases qv : cellOk v with
        | false =>
          simp only [Bool.false_eq_true, if_false]
          repeat (first | (with_reducible apply Tl.val; focus (simp (disch := omega) only [coreA, Int.reduceBEq, base_P3] <;> with_reducible rfl)) | (with_reducible first | refine Tl.brT ?_ | refine Tl.brF ?_ | refine Tl.gd_on ?_ | refine Tl.gd3_on ?_) | ((with_reducible first | apply Tl.brC | apply Tl.gdC | apply Tl.gd3C); focus (simp (disch := omega) only [coreA, Int.reduceBEq, base_P3] <;> with_reducible rfl)))
          exact done _
        | true =>
          simp only [if_true]
          obtain ⟨c, hc, hpick⟩ := f20c (k := k + 2999) col cols.length hc16.1 (by omega)
          obtain ⟨cd, ecd⟩ : ∃ x, cols[c]? = some x := ⟨_, List.getElem?_eq_getElem hc⟩
          obtain ⟨x, ex⟩ : ∃ x, row[c]? = some x := ⟨_, List.getElem?_eq_getElem (by omega)⟩
          have hv : ∀ h', pLen Try.prog #[30] cv h' = some (.int .i64 cols.length) := fun h' => C.len
          have S4 := S3.alloc (.cells [.int .i64 2, .int .i64 3, .int .i64 4, .int .i64 5] 3 true)
          have hbs := bs46_4 h3
          generalize h3.alloc (.cells [.int .i64 2, .int .i64 3, .int .i64 4, .int .i64 5] 3 true) = h4 at S4 hbs
          have hl4 : ∀ h' : AH, pLen Try.prog #[46] (.slice (some ⟨h3.n, 0, none⟩) 4 4) h' = some (.int .i64 4) := fun h' => len_slice u46
          repeat (first | (with_reducible apply Tl.val; focus (simp (disch := omega) only [coreA, Int.reduceBEq, base_P3, hv, hpick, hbs, hl4] <;> with_reducible rfl)) | (with_reducible first | refine Tl.brT ?_ | refine Tl.brF ?_ | refine Tl.gd_on ?_ | refine Tl.gd3_on ?_) | ((with_reducible first | apply Tl.brC | apply Tl.gdC | apply Tl.gd3C); focus (simp (disch := omega) only [coreA, Int.reduceBEq, base_P3, hv, hpick, hbs, hl4] <;> with_reducible rfl)))
          have S4 : Stt Try.prog h.n h h4 ((b7, .cells (crow v) 42 true) :: (h3.n, .cells [.int .i64 2, .int .i64 3, .int .i64 4, .int .i64 5] 3 true) :: []) [(.slice none 0 0, 1, ([] : List Value).map fun v => [v])] :=
            Stt.nil (S4.perm (List.Perm.swap _ _ _)) 1
          refine f5_loop (k := k + 1000) (cnt := 0) C R (by omega) hco ecd hc16.2 qv hvr 4 (i := 0) (vs := []) rfl (by omega) rfl (by omega) trivial S4 fun h5 Fz vs allv y1 y2 y3 y4 A S5 => ?_
          obtain ⟨j1, j2⟩ := just_one (v := v) ex
          rw [List.drop_zero, j1]
          have A5 : All2 (Preds h5) vs (ops4.map fun op => [nodeOf c v op]) := A.mono fun pv l hpl => hpl h5 S5.sta.mem.2.2
          have hup : ∀ l ∈ (ops4.map fun op => [nodeOf c v op]), upto 0 l := fun l hl nd hnd => by
            obtain ⟨op, _, rfl⟩ := List.mem_map.1 hl
            simp at hnd
            subst hnd
            exact ⟨by simp [nodeOf], fun x hx => by cases hx⟩
          have hnn : ∀ l ∈ (ops4.map fun op => [nodeOf c v op]), nonneg l := fun l hl => (hup l hl).nonneg
          refine Tl.bind (f12c (k := k + 1900) (op := 7) (vs := vs) (S5.slV 0 rfl).z A5 (by simp [ops4]) fun l hl => ⟨?_, (hup l hl).light (by omega)⟩) ?_
          · obtain ⟨op, _, rfl⟩ := List.mem_map.1 hl
            simp
          rintro ⟨vo, h6⟩ ⟨PO, g6⟩
          simp only at PO g6
          have hho : holdsB row (joinL 7 (ops4.map fun op => [nodeOf c v op])) = true := by
            rw [holds_join row 7 _ hnn, List.map_map]
            show tellB row (opN 7) (ops4.map fun op => holdsB row [nodeOf c v op]) = true
            have : ∀ ps, tellB row (opN 7) ps = ps.contains true := fun ps => rfl
            rw [this, j2]
          have UO := joinL_upto 7 (B := 0) (by omega) (ops4.map fun op => [nodeOf c v op]) hup (by simp [ops4])
          have LO : (joinL 7 (ops4.map fun op => [nodeOf c v op])).length = 5 := rfl
          rw [LO] at UO
          generalize joinL 7 (ops4.map fun op => [nodeOf c v op]) = lo at PO hho UO LO
          obtain ⟨fo, mo, co, rfl⟩ := PO.form
          repeat (first | (with_reducible apply Tl.val; focus (simp (disch := omega) only [coreA, Int.reduceBEq, base_P3, bs45_1] <;> with_reducible rfl)) | (with_reducible first | refine Tl.brT ?_ | refine Tl.brF ?_ | refine Tl.gd_on ?_ | refine Tl.gd3_on ?_) | ((with_reducible first | apply Tl.brC | apply Tl.gdC | apply Tl.gd3C); focus (simp (disch := omega) only [coreA, Int.reduceBEq, base_P3, bs45_1] <;> with_reducible rfl)))
          refine Tl.bind (f12c (k := k + 1900) (op := 8) (vs := [.slice fo mo co]) (ls := [lo]) (slV_one (P := Try.prog) (h := h6) (e := 22) (n := 1) (r := [.slice fo mo co]) rfl).z ⟨PO.grow (Grow.alloc _ _), trivial⟩ (by simp) fun l hl => ?_) ?_
          · simp at hl
            subst hl
            exact ⟨by omega, UO.light (by omega)⟩
          rintro ⟨vn, h7⟩ ⟨PN, g7⟩
          simp only at PN g7
          have hhn : holdsB row (joinL 8 [lo]) = false := by
            rw [holds_join row 8 [lo] (fun l hl => by simp at hl; subst hl; exact UO.nonneg), List.map_cons, List.map_nil, hho]
            rfl
          have UN := joinL_upto 8 (B := 0 + (5 : Nat)) (by omega) [lo] (fun l hl => by simp at hl; subst hl; exact UO) (by simp)
          have LN : (joinL 8 [lo]).length = 6 := by
            have hne : ¬ lo = [] := fun h => by rw [h] at LO; cases LO
            simp [joinL, joinStep, hne, LO]
          have g67 := (Grow.alloc h6 (.cells [.slice fo mo co] 22 true)).trans g7
          have g07 := (S5.grow.trans g6).trans g67
          repeat (first | (with_reducible apply Tl.val; focus (simp (disch := omega) only [coreA, Int.reduceBEq, base_P3] <;> with_reducible rfl)) | (with_reducible first | refine Tl.brT ?_ | refine Tl.brF ?_ | refine Tl.gd_on ?_ | refine Tl.gd3_on ?_) | ((with_reducible first | apply Tl.brC | apply Tl.gdC | apply Tl.gd3C); focus (simp (disch := omega) only [coreA, Int.reduceBEq, base_P3] <;> with_reducible rfl)))
          refine Tl.bind (f11c (k := k + 1800) (PO.grow g67) (R.grow g07) (by omega) (fun nd hnd => (UO nd hnd).1) (by omega)) ?_
          rintro ⟨w, h8⟩ ⟨ew, g8⟩
          simp only at ew g8
          subst ew
          rw [hho]
          repeat (first | (with_reducible apply Tl.val; focus (simp (disch := omega) only [coreA, Int.reduceBEq, base_P3] <;> with_reducible rfl)) | (with_reducible first | refine Tl.brT ?_ | refine Tl.brF ?_ | refine Tl.gd_on ?_ | refine Tl.gd3_on ?_) | ((with_reducible first | apply Tl.brC | apply Tl.gdC | apply Tl.gd3C); focus (simp (disch := omega) only [coreA, Int.reduceBEq, base_P3] <;> with_reducible rfl)))
          refine Tl.bind (f11c (k := k + 1800) (PN.grow g8) (R.grow (g07.trans g8)) (by omega) (fun nd hnd => (UN nd hnd).1) (by omega)) ?_
          rintro ⟨w, h9⟩ ⟨ew, g9⟩
          simp only at ew g9
          subst ew
          rw [hhn]
          repeat (first | (with_reducible apply Tl.val; focus (simp (disch := omega) only [coreA, Int.reduceBEq, base_P3] <;> with_reducible rfl)) | (with_reducible first | refine Tl.brT ?_ | refine Tl.brF ?_ | refine Tl.gd_on ?_ | refine Tl.gd3_on ?_) | ((with_reducible first | apply Tl.brC | apply Tl.gdC | apply Tl.gd3C); focus (simp (disch := omega) only [coreA, Int.reduceBEq, base_P3] <;> with_reducible rfl)))
          exact done _
      · repeat (first | (with_reducible apply Tl.val; focus (simp (disch := omega) only [coreA, Int.reduceBEq, base_P3] <;> with_reducible rfl)) | (with_reducible first | refine Tl.brT ?_ | refine Tl.brF ?_ | refine Tl.gd_on ?_ | refine Tl.gd3_on ?_) | ((with_reducible first | apply Tl.brC | apply Tl.gdC | apply Tl.gd3C); focus (simp (disch := omega) only [coreA, Int.reduceBEq, base_P3] <;> with_reducible rfl)))
        exact done _
end Go.Proofs.Ytmhgihjmhmihpaa.Sh
