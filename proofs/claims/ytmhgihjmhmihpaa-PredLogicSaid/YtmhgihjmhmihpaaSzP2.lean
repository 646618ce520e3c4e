/- 'PredLogic' comes to true. -/
import Derived.Test.YtmhgihjmhmihpaaSzP1
set_option linter.unusedVariables false
set_option linter.unusedSimpArgs false
set_option maxRecDepth 100000
namespace Go.Proofs.Ytmhgihjmhmihpaa.Sh
open Go Go.RowKit Go.Proofs.Ev
theorem base_P2 : type_of% (And.intro @ld3 (And.intro @ld4 (And.intro @ld22 (And.intro @ld46 (And.intro @ld48 (And.intro @fa48_0 (And.intro @fa48_1 (And.intro @fa48_2 (And.intro @fa48_3 (And.intro @Nat.add_zero ((fun ox oy a b => bin_eql_bool (ox := ox) (oy := oy) (a := a) (b := b) u4)))))))))))) := And.intro @ld3 (And.intro @ld4 (And.intro @ld22 (And.intro @ld46 (And.intro @ld48 (And.intro @fa48_0 (And.intro @fa48_1 (And.intro @fa48_2 (And.intro @fa48_3 (And.intro @Nat.add_zero ((fun ox oy a b => bin_eql_bool (ox := ox) (oy := oy) (a := a) (b := b) u4)))))))))))
def aheadN (i : Nat) (ns : List Int) : Bool := ns.all fun n => decide (0 ≤ n) && decide (n < i)
def aheadF : Nat → List NodeD → Bool
  | _, [] => true
  | i, nd :: l => aheadN i nd.parts && aheadF (i + 1) l
theorem f10_in {β : Type} {inv : Inv} {k : Nat} {Q : β → Prop} {h : AH} {v : Value} {l : List NodeD} {nd : NodeD} {i : Nat} (S : Preds h v l) (hi : l[i]? = some nd) (hl : nd.parts.length ≤ 2 ^ 40) (hi2 : i ≤ 2 ^ 40)
    {ke2 : Value → Value → Value → Value → AH → Option β} {kr : Value → AH → Option β} (n : Nat) :
    ∀ {q j : Nat}, q + n = nd.parts.length → n < j → (aheadN i (nd.parts.drop q) = true → ∀ y1 y2, Tl (ke2 v (.int .i64 i) y1 y2 h) Q) → (aheadN i (nd.parts.drop q) = false → Tl (kr (.bool false) h) Q) →
      Tl (F10_lrllrllrlr inv k j v (.int .i64 i) (.int .i64 q) h ke2 kr) Q := by
  obtain ⟨b, o, pv, hp, hrow, N⟩ := S.at_ hi
  have c5 : h.cell b (o + 5) = some pv := Ev.cell_of_row (j := 5) hrow (by omega)
  have hv : ∀ h', pLen Try.prog #[46] pv h' = some (.int .i64 nd.parts.length) := fun h' => N.len
  induction n with
  | zero =>
    intro q j hq hj hk hr
    obtain ⟨j, rfl⟩ : ∃ q, j = q + 1 := ⟨j - 1, by omega⟩
    simp only [F10_lrllrllrlr]
    repeat (first | (with_reducible apply Tl.val; focus (simp (disch := omega) only [coreA, Int.reduceBEq, base_P2, hp, c5, hv] <;> with_reducible rfl)) | (with_reducible first | refine Tl.brT ?_ | refine Tl.brF ?_ | refine Tl.gd_on ?_ | refine Tl.gd3_on ?_) | ((with_reducible first | apply Tl.brC | apply Tl.gdC | apply Tl.gd3C); focus (simp (disch := omega) only [coreA, Int.reduceBEq, base_P2, hp, c5, hv] <;> with_reducible rfl)))
    exact hk (by rw [List.drop_eq_nil_of_le (by omega)]; rfl) _ _
  | succ n ih =>
    intro q j hq hj hk hr
    obtain ⟨j, rfl⟩ : ∃ q, j = q + 1 := ⟨j - 1, by omega⟩
    obtain ⟨x, ex⟩ : ∃ x, nd.parts[q]? = some x := ⟨_, List.getElem?_eq_getElem (by omega)⟩
    obtain ⟨b2, o2, hp2, hc2⟩ := N.at_ ex
    have e : (q : Int) + 1 = ((q + 1 : Nat) : Int) := by omega
    have ea : aheadN i (x :: nd.parts.drop (q + 1)) = ((decide (0 ≤ x) && decide (x < i)) && aheadN i (nd.parts.drop (q + 1))) := rfl
    rw [drop_at ex, ea] at hk hr
    simp only [F10_lrllrllrlr]
    by_cases q0 : 0 ≤ x
    · by_cases q1 : x < i
      · rw [decide_eq_true q0, decide_eq_true q1, Bool.true_and, Bool.true_and] at hk hr
        repeat (first | (with_reducible apply Tl.val; focus (simp (disch := omega) only [coreA, Int.reduceBEq, base_P2, hp, c5, hv, hp2, hc2] <;> with_reducible rfl)) | (with_reducible first | refine Tl.brT ?_ | refine Tl.brF ?_ | refine Tl.gd_on ?_ | refine Tl.gd3_on ?_) | ((with_reducible first | apply Tl.brC | apply Tl.gdC | apply Tl.gd3C); focus (simp (disch := omega) only [coreA, Int.reduceBEq, base_P2, hp, c5, hv, hp2, hc2] <;> with_reducible rfl)))
        rw [e]
        exact ih (by omega) (by omega) hk hr
      · rw [decide_eq_false q1, Bool.and_false, Bool.false_and] at hr
        repeat (first | (with_reducible apply Tl.val; focus (simp (disch := omega) only [coreA, Int.reduceBEq, base_P2, hp, c5, hv, hp2, hc2] <;> with_reducible rfl)) | (with_reducible first | refine Tl.brT ?_ | refine Tl.brF ?_ | refine Tl.gd_on ?_ | refine Tl.gd3_on ?_) | ((with_reducible first | apply Tl.brC | apply Tl.gdC | apply Tl.gd3C); focus (simp (disch := omega) only [coreA, Int.reduceBEq, base_P2, hp, c5, hv, hp2, hc2] <;> with_reducible rfl)))
        exact hr rfl
    · rw [decide_eq_false q0, Bool.false_and, Bool.false_and] at hr
      repeat (first | (with_reducible apply Tl.val; focus (simp (disch := omega) only [coreA, Int.reduceBEq, base_P2, hp, c5, hv, hp2, hc2] <;> with_reducible rfl)) | (with_reducible first | refine Tl.brT ?_ | refine Tl.brF ?_ | refine Tl.gd_on ?_ | refine Tl.gd3_on ?_) | ((with_reducible first | apply Tl.brC | apply Tl.gdC | apply Tl.gd3C); focus (simp (disch := omega) only [coreA, Int.reduceBEq, base_P2, hp, c5, hv, hp2, hc2] <;> with_reducible rfl)))
      exact hr rfl
theorem f10_out {β : Type} {inv : Inv} {k : Nat} {Q : β → Prop} {h : AH} {v : Value} {l : List NodeD} (S : Preds h v l) (hl : l.length ≤ 900) (hps : ∀ nd ∈ l, nd.parts.length ≤ 900) (hk1 : 1000 < k)
    {ke0 : Value → Value → Value → AH → Option β} {kr : Value → AH → Option β} (n : Nat) :
    ∀ {i j : Nat}, i + n = l.length → n < j → (aheadF i (l.drop i) = true → ∀ y1 y2 y3, Tl (ke0 y1 y2 y3 h) Q) → (aheadF i (l.drop i) = false → Tl (kr (.bool false) h) Q) →
      Tl (F10_lrlr inv k j v (.int .i64 i) h ke0 kr) Q := by
  have hv : ∀ h', pLen Try.prog #[22] v h' = some (.int .i64 l.length) := fun h' => S.len
  induction n with
  | zero =>
    intro i j hi hj hk hr
    obtain ⟨j, rfl⟩ : ∃ q, j = q + 1 := ⟨j - 1, by omega⟩
    simp only [F10_lrlr]
    repeat (first | (with_reducible apply Tl.val; focus (simp (disch := omega) only [coreA, Int.reduceBEq, base_P2, hv] <;> with_reducible rfl)) | (with_reducible first | refine Tl.brT ?_ | refine Tl.brF ?_ | refine Tl.gd_on ?_ | refine Tl.gd3_on ?_) | ((with_reducible first | apply Tl.brC | apply Tl.gdC | apply Tl.gd3C); focus (simp (disch := omega) only [coreA, Int.reduceBEq, base_P2, hv] <;> with_reducible rfl)))
    exact hk (by rw [List.drop_eq_nil_of_le (by omega)]; rfl) _ _ _
  | succ n ih =>
    intro i j hi hj hk hr
    obtain ⟨j, rfl⟩ : ∃ q, j = q + 1 := ⟨j - 1, by omega⟩
    obtain ⟨nd, ex⟩ : ∃ x, l[i]? = some x := ⟨_, List.getElem?_eq_getElem (by omega)⟩
    have hnp := hps nd (List.mem_of_getElem? ex)
    have e : (i : Int) + 1 = ((i + 1 : Nat) : Int) := by omega
    rw [drop_at ex, aheadF] at hk hr
    simp only [F10_lrlr]
    repeat (first | (with_reducible apply Tl.val; focus (simp (disch := omega) only [coreA, Int.reduceBEq, base_P2, hv] <;> with_reducible rfl)) | (with_reducible first | refine Tl.brT ?_ | refine Tl.brF ?_ | refine Tl.gd_on ?_ | refine Tl.gd3_on ?_) | ((with_reducible first | apply Tl.brC | apply Tl.gdC | apply Tl.gd3C); focus (simp (disch := omega) only [coreA, Int.reduceBEq, base_P2, hv] <;> with_reducible rfl)))
    refine f10_in S ex (by omega) (by omega) nd.parts.length (q := 0) (by omega) (by omega) (fun q1 y1 y2 => ?_) fun q1 => ?_
    · rw [List.drop_zero] at q1
      rw [q1, Bool.true_and] at hk hr
      repeat (first | (with_reducible apply Tl.val; focus (simp (disch := omega) only [coreA, Int.reduceBEq, base_P2] <;> with_reducible rfl)) | (with_reducible first | refine Tl.brT ?_ | refine Tl.brF ?_ | refine Tl.gd_on ?_ | refine Tl.gd3_on ?_) | ((with_reducible first | apply Tl.brC | apply Tl.gdC | apply Tl.gd3C); focus (simp (disch := omega) only [coreA, Int.reduceBEq, base_P2] <;> with_reducible rfl)))
      rw [e]
      exact ih (by omega) (by omega) hk hr
    · rw [List.drop_zero] at q1
      rw [q1, Bool.false_and] at hr
      exact hr rfl
theorem f10e {k : Nat} {h : AH} {v : Value} {l : List NodeD} (S : Preds h v l) (hl : l.length ≤ 900) (hps : ∀ nd ∈ l, nd.parts.length ≤ 900) (hk1 : 1000 < k) : eInv env (k + 1) (.func 10) #[] #[v] h = some (.bool (aheadF 0 l), h) := by
  rw [F10_call]
  have T : Tl (F10 (eInv env k) k v h) fun r => r = (.bool (aheadF 0 l), h) := by
    unfold F10
    refine f10_out S hl hps hk1 l.length (i := 0) (by omega) (by omega) (fun q y1 y2 y3 => ?_) fun q => ?_
    · rw [List.drop_zero] at q
      exact ⟨_, rfl, by rw [q]⟩
    · rw [List.drop_zero] at q
      exact ⟨_, rfl, by rw [q]⟩
  obtain ⟨r, h1, h2⟩ := T
  rw [h1, h2]
theorem ahead_upto {l : List NodeD} : ∀ {i : Nat}, aheadF i l = true → (∀ nd ∈ l, nd.parts.length ≤ 900) → upto (i + l.length) l := by
  induction l with
  | nil => intro i _ _ nd hnd; cases hnd
  | cons a l ih =>
    intro i h hp nd hnd
    rw [aheadF, Bool.and_eq_true] at h
    rcases List.mem_cons.1 hnd with rfl | hnd
    · refine ⟨hp _ (List.mem_cons_self ..), fun x hx => ?_⟩
      have := List.all_eq_true.1 h.1 x hx
      simp at this
      simp
      omega
    · obtain ⟨a1, a2⟩ := ih h.2 (fun nd hnd => hp nd (List.mem_cons_of_mem _ hnd)) nd hnd
      refine ⟨a1, fun x hx => ?_⟩
      have := a2 x hx
      simp at this ⊢
      omega
theorem bs45_1 (a : Option Addr) (m c : Nat) (h : AH) : pBuildSlice Try.prog 45 1 #[(0, .slice a m c)] h = some (.slice (some ⟨h.n, 0, none⟩) 1 1, h.alloc (.cells [.slice a m c] 22 true)) := by kernel_rfl
theorem bs45_2 (a : Option Addr) (m c : Nat) (a' : Option Addr) (m' c' : Nat) (h : AH) : pBuildSlice Try.prog 45 2 #[(0, .slice a m c), (1, .slice a' m' c')] h = some (.slice (some ⟨h.n, 0, none⟩) 2 2, h.alloc (.cells [.slice a m c, .slice a' m' c'] 22 true)) := by kernel_rfl
theorem Preds.form {h : AH} {v : Value} {l : List NodeD} (S : Preds h v l) : ∃ a m c, v = .slice a m c := by
  obtain ⟨rows, X, _⟩ := S
  obtain ⟨a, c, e, _⟩ := X.form
  exact ⟨a, _, c, e⟩
/-- 'Join' of one. -/
theorem join1c {k : Nat} {h : AH} {op : Int} {q : Option Addr} {m c : Nat} {a : List NodeD} {B : Int} (A : Preds h (.slice q m c) a) (ha : upto B a) (hB : 0 ≤ B ∧ B ≤ 2 ^ 40) (hl : a.length ≤ 300) :
    Tl (eInv env (k + 1100) (.func 12) #[] #[.int .i64 op, .slice (some ⟨h.n, 0, none⟩) 1 1] (h.alloc (.cells [.slice q m c] 22 true))) fun r => Preds r.2 r.1 (joinL op [a]) ∧ upto (B + (joinL op [a]).length) (joinL op [a]) ∧ Grow h r.2 := by
  have g := Grow.alloc h (.cells [.slice q m c] 22 true)
  refine Tl.mono (f12c (k := k) (op := op) (vs := [.slice q m c]) (ls := [a]) (slV_one (P := Try.prog) (h := h) (e := 22) (n := 1) (r := [.slice q m c]) rfl).z ⟨A.grow g, trivial⟩ (by simp) fun l hl' => ?_) ?_
  · simp at hl'
    subst hl'
    exact ⟨hl, ha.light (by omega)⟩
  · rintro ⟨v, h'⟩ ⟨P', g'⟩
    exact ⟨P', joinL_upto op hB.1 [a] (fun l hl' => by simp at hl'; subst hl'; exact ha) (by simp), g.trans g'⟩
/-- 'Join' of two. -/
theorem join2c {k : Nat} {h : AH} {op : Int} {q q' : Option Addr} {m c m' c' : Nat} {a b : List NodeD} {B : Int} (A : Preds h (.slice q m c) a) (A' : Preds h (.slice q' m' c') b) (ha : upto B a) (hb : upto B b) (hB : 0 ≤ B ∧ B ≤ 2 ^ 40) (hl : a.length ≤ 300) (hl' : b.length ≤ 300) :
    Tl (eInv env (k + 1100) (.func 12) #[] #[.int .i64 op, .slice (some ⟨h.n, 0, none⟩) 2 2] (h.alloc (.cells [.slice q m c, .slice q' m' c'] 22 true))) fun r => Preds r.2 r.1 (joinL op [a, b]) ∧ upto (B + (joinL op [a, b]).length) (joinL op [a, b]) ∧ Grow h r.2 := by
  have g := Grow.alloc h (.cells [.slice q m c, .slice q' m' c'] 22 true)
  have X : SlV Try.prog (h.alloc (.cells [.slice q m c, .slice q' m' c'] 22 true)) (.slice (some ⟨h.n, 0, none⟩) 2 2) 1 [[.slice q m c], [.slice q' m' c']] :=
    .inr ⟨h.n, 0, 2, true, rfl, Nat.le_refl _, ⟨⟨_, 22, AH.get_alloc_new _ _, fun _ => ⟨by simp, by simp⟩⟩, fun r hr => by simp at hr; rcases hr with rfl | rfl <;> rfl⟩⟩
  have hall : ∀ l ∈ [a, b], upto B l := fun l hl' => by simp at hl'; rcases hl' with rfl | rfl <;> assumption
  refine Tl.mono (f12c (k := k) (op := op) (vs := [.slice q m c, .slice q' m' c']) (ls := [a, b]) X.z ⟨A.grow g, A'.grow g, trivial⟩ (by simp) fun l hl'' => ?_) ?_
  · refine ⟨?_, (hall l hl'').light (by omega)⟩
    simp at hl''
    rcases hl'' with rfl | rfl <;> assumption
  · rintro ⟨v, h'⟩ ⟨P', g'⟩
    exact ⟨P', joinL_upto op hB.1 [a, b] hall (by simp), g.trans g'⟩
theorem tell_and (row : List CellD) (x y : Bool) : tellB row (opN 6) [x, y] = (x && y) := by cases x <;> cases y <;> rfl
theorem tell_or (row : List CellD) (x y : Bool) : tellB row (opN 7) [x, y] = (x || y) := by cases x <;> cases y <;> rfl
theorem tell_not (row : List CellD) (x : Bool) : tellB row (opN 8) [x] = !x := by cases x <;> rfl
theorem upto.up {B B' : Int} {l : List NodeD} (h : upto B l) (hB : B ≤ B') : upto B' l := fun nd hnd => ⟨(h nd hnd).1, fun x hx => by have := (h nd hnd).2 x hx; omega⟩
theorem f3_tail {k : Nat} {h : AH} {va vb vn vl vr rv : Value} {a b n1 l1 r1 : List NodeD} {row : List CellD} {x y : Bool} (A : Preds h va a) (B : Preds h vb b) (N : Preds h vn n1) (Lf : Preds h vl l1) (Rt : Preds h vr r1) (R : Cells h rv row) (hr : row.length ≤ 2 ^ 40)
    (hal : a.length ≤ 20) (hbl : b.length ≤ 20) (hnl : n1.length ≤ 22) (hll : l1.length ≤ 50) (hrl : r1.length ≤ 50) (ua : upto 20 a) (ub : upto 20 b) (un : upto 100 n1) (ul : upto 200 l1) (ur : upto 200 r1)
    (hx : holdsB row a = x) (hy : holdsB row b = y) (hn : holdsB row n1 = !x) (hlr : holdsB row l1 = holdsB row r1) {K : Value → AH → Option (Value × AH)} (hK : ∀ h', Tl (K (.bool true) h') fun r => r.1 = .bool true) :
    Tl (G3_9 (eInv env (k + 1300)) va vb rv (.bool x) (.bool y) vn vl vr h K) fun r => r.1 = .bool true := by
  obtain ⟨qa, ma, ca, rfl⟩ := A.form
  obtain ⟨qb, mb, cb, rfl⟩ := B.form
  obtain ⟨qn, mn, cn, rfl⟩ := N.form
  have hpu : ∀ {Bd : Int} {l : List NodeD}, upto Bd l → ∀ nd ∈ l, nd.parts.length ≤ 900 := fun u nd hnd => (u nd hnd).1
  have e1 : holdsB row (joinL 6 [a, b]) = (x && y) := by
    rw [holds_join row 6 [a, b] (fun l hl => by simp at hl; rcases hl with hl | hl <;> subst hl <;> first | exact ua.nonneg | exact ub.nonneg), List.map_cons, List.map_cons, List.map_nil, hx, hy, tell_and]
  have e2 : holdsB row (joinL 7 [a, b]) = (x || y) := by
    rw [holds_join row 7 [a, b] (fun l hl => by simp at hl; rcases hl with hl | hl <;> subst hl <;> first | exact ua.nonneg | exact ub.nonneg), List.map_cons, List.map_cons, List.map_nil, hx, hy, tell_or]
  have e3 : holdsB row (joinL 8 [n1]) = !!x := by
    rw [holds_join row 8 [n1] (fun l hl => by simp at hl; subst hl; exact un.nonneg), List.map_cons, List.map_nil, hn, tell_not]
  have l1' := joinL_len2 6 a b
  have l2' := joinL_len2 7 a b
  have l3' := joinL_len1 8 n1
  cases x <;> cases y
  all_goals
    simp only [Bool.not_true, Bool.not_false, Bool.and_true, Bool.and_false, Bool.or_true, Bool.or_false] at e1 e2 e3 hn
    repeat (first | (with_reducible apply Tl.val; focus (simp (disch := omega) only [coreA, Int.reduceBEq, base_P2, bs45_2] <;> with_reducible rfl)) | (with_reducible first | refine Tl.brT ?_ | refine Tl.brF ?_ | refine Tl.gd_on ?_ | refine Tl.gd3_on ?_) | ((with_reducible first | apply Tl.brC | apply Tl.gdC | apply Tl.gd3C); focus (simp (disch := omega) only [coreA, Int.reduceBEq, base_P2, bs45_2] <;> with_reducible rfl)))
    refine Tl.bind (join2c (k := k + 200) (op := 6) A B ua ub ⟨by omega, by omega⟩ (by omega) (by omega)) ?_
    rintro ⟨v1, h1⟩ ⟨P1, U1, g1⟩
    simp only at P1 U1 g1
    repeat (first | (with_reducible apply Tl.val; focus (simp (disch := omega) only [coreA, Int.reduceBEq, base_P2] <;> with_reducible rfl)) | (with_reducible first | refine Tl.brT ?_ | refine Tl.brF ?_ | refine Tl.gd_on ?_ | refine Tl.gd3_on ?_) | ((with_reducible first | apply Tl.brC | apply Tl.gdC | apply Tl.gd3C); focus (simp (disch := omega) only [coreA, Int.reduceBEq, base_P2] <;> with_reducible rfl)))
    refine Tl.bind (f11c (k := k + 100) P1 (R.grow g1) (by omega) (hpu U1) (by omega)) ?_
    rintro ⟨w1, h2⟩ ⟨ew, g2⟩
    simp only at ew g2
    subst ew
    rw [e1]
    have g02 := g1.trans g2
    repeat (first | (with_reducible apply Tl.val; focus (simp (disch := omega) only [coreA, Int.reduceBEq, base_P2, bs45_2] <;> with_reducible rfl)) | (with_reducible first | refine Tl.brT ?_ | refine Tl.brF ?_ | refine Tl.gd_on ?_ | refine Tl.gd3_on ?_) | ((with_reducible first | apply Tl.brC | apply Tl.gdC | apply Tl.gd3C); focus (simp (disch := omega) only [coreA, Int.reduceBEq, base_P2, bs45_2] <;> with_reducible rfl)))
    refine Tl.bind (join2c (k := k + 200) (op := 7) (A.grow g02) (B.grow g02) ua ub ⟨by omega, by omega⟩ (by omega) (by omega)) ?_
    rintro ⟨v3, h3⟩ ⟨P3, U3, g3⟩
    simp only at P3 U3 g3
    have g03 := g02.trans g3
    repeat (first | (with_reducible apply Tl.val; focus (simp (disch := omega) only [coreA, Int.reduceBEq, base_P2] <;> with_reducible rfl)) | (with_reducible first | refine Tl.brT ?_ | refine Tl.brF ?_ | refine Tl.gd_on ?_ | refine Tl.gd3_on ?_) | ((with_reducible first | apply Tl.brC | apply Tl.gdC | apply Tl.gd3C); focus (simp (disch := omega) only [coreA, Int.reduceBEq, base_P2] <;> with_reducible rfl)))
    refine Tl.bind (f11c (k := k + 100) P3 (R.grow g03) (by omega) (hpu U3) (by omega)) ?_
    rintro ⟨w1, h4⟩ ⟨ew, g4⟩
    simp only at ew g4
    subst ew
    rw [e2]
    have g04 := g03.trans g4
    repeat (first | (with_reducible apply Tl.val; focus (simp (disch := omega) only [coreA, Int.reduceBEq, base_P2] <;> with_reducible rfl)) | (with_reducible first | refine Tl.brT ?_ | refine Tl.brF ?_ | refine Tl.gd_on ?_ | refine Tl.gd3_on ?_) | ((with_reducible first | apply Tl.brC | apply Tl.gdC | apply Tl.gd3C); focus (simp (disch := omega) only [coreA, Int.reduceBEq, base_P2] <;> with_reducible rfl)))
    refine Tl.bind (f11c (k := k + 100) (N.grow g04) (R.grow g04) (by omega) (hpu un) (by omega)) ?_
    rintro ⟨w1, h5⟩ ⟨ew, g5⟩
    simp only at ew g5
    subst ew
    rw [hn]
    have g05 := g04.trans g5
    repeat (first | (with_reducible apply Tl.val; focus (simp (disch := omega) only [coreA, Int.reduceBEq, base_P2] <;> with_reducible rfl)) | (with_reducible first | refine Tl.brT ?_ | refine Tl.brF ?_ | refine Tl.gd_on ?_ | refine Tl.gd3_on ?_) | ((with_reducible first | apply Tl.brC | apply Tl.gdC | apply Tl.gd3C); focus (simp (disch := omega) only [coreA, Int.reduceBEq, base_P2] <;> with_reducible rfl)))
    refine Tl.bind (f11c (k := k + 100) (Lf.grow g05) (R.grow g05) (by omega) (hpu ul) (by omega)) ?_
    rintro ⟨w1, h6⟩ ⟨ew, g6⟩
    simp only at ew g6
    subst ew
    have g06 := g05.trans g6
    repeat (first | (with_reducible apply Tl.val; focus (simp (disch := omega) only [coreA, Int.reduceBEq, base_P2] <;> with_reducible rfl)) | (with_reducible first | refine Tl.brT ?_ | refine Tl.brF ?_ | refine Tl.gd_on ?_ | refine Tl.gd3_on ?_) | ((with_reducible first | apply Tl.brC | apply Tl.gdC | apply Tl.gd3C); focus (simp (disch := omega) only [coreA, Int.reduceBEq, base_P2] <;> with_reducible rfl)))
    refine Tl.bind (f11c (k := k + 100) (Rt.grow g06) (R.grow g06) (by omega) (hpu ur) (by omega)) ?_
    rintro ⟨w1, h7⟩ ⟨ew, g7⟩
    simp only at ew g7
    subst ew
    rw [hlr]
    have g07 := g06.trans g7
    repeat (first | (with_reducible apply Tl.val; focus (simp (disch := omega) only [coreA, Int.reduceBEq, base_P2, bs45_1] <;> with_reducible rfl)) | (with_reducible first | refine Tl.brT ?_ | refine Tl.brF ?_ | refine Tl.gd_on ?_ | refine Tl.gd3_on ?_) | ((with_reducible first | apply Tl.brC | apply Tl.gdC | apply Tl.gd3C); focus (simp (disch := omega) only [coreA, Int.reduceBEq, base_P2, bs45_1] <;> with_reducible rfl)))
    refine Tl.bind (join1c (k := k + 200) (op := 8) (N.grow g07) un ⟨by omega, by omega⟩ (by omega)) ?_
    rintro ⟨v8, h8⟩ ⟨P8, U8, g8⟩
    simp only at P8 U8 g8
    have g08 := g07.trans g8
    repeat (first | (with_reducible apply Tl.val; focus (simp (disch := omega) only [coreA, Int.reduceBEq, base_P2] <;> with_reducible rfl)) | (with_reducible first | refine Tl.brT ?_ | refine Tl.brF ?_ | refine Tl.gd_on ?_ | refine Tl.gd3_on ?_) | ((with_reducible first | apply Tl.brC | apply Tl.gdC | apply Tl.gd3C); focus (simp (disch := omega) only [coreA, Int.reduceBEq, base_P2] <;> with_reducible rfl)))
    refine Tl.bind (f11c (k := k + 100) P8 (R.grow g08) (by omega) (hpu U8) (by omega)) ?_
    rintro ⟨w1, h9⟩ ⟨ew, g9⟩
    simp only at ew g9
    subst ew
    rw [e3]
    repeat (first | (with_reducible apply Tl.val; focus (simp (disch := omega) only [coreA, Int.reduceBEq, base_P2] <;> with_reducible rfl)) | (with_reducible first | refine Tl.brT ?_ | refine Tl.brF ?_ | refine Tl.gd_on ?_ | refine Tl.gd3_on ?_) | ((with_reducible first | apply Tl.brC | apply Tl.gdC | apply Tl.gd3C); focus (simp (disch := omega) only [coreA, Int.reduceBEq, base_P2] <;> with_reducible rfl)))
    exact hK _
theorem f3 {k : Nat} {h : AH} {va vb rv : Value} {a b : List NodeD} {row : List CellD} (A : Preds h va a) (B : Preds h vb b) (R : Cells h rv row) (ha : a.length ≤ 9223372036854775807) (hb : b.length ≤ 9223372036854775807) (hr : row.length ≤ 9223372036854775807) (ka : a.length < k) (kb : b.length < k) (kr : row.length < k) :
    Tl (F3 (eInv env (k + 3000)) (k + 3000) va vb rv h) fun r => r.1 = .bool true := by
  unfold F3
  have h0 := lives_call (k := k + 2999) (h := h)
  have pa := f8c (k := k + 2999) A (by omega) (by omega)
  have pb := f8c (k := k + 2999) B (by omega) (by omega)
  have pr := f9c (k := k + 2999) R (by omega) (by omega)
  have done : ∀ h' : AH, Tl (some (Value.bool true, h')) fun r => r.1 = Value.bool true := fun h' => ⟨_, rfl, rfl⟩
  cases qa : lightP a with
  | false =>
    rw [qa] at pa
    repeat (first | (with_reducible apply Tl.val; focus (simp (disch := omega) only [coreA, Int.reduceBEq, base_P2, h0, pa] <;> with_reducible rfl)) | (with_reducible first | refine Tl.brT ?_ | refine Tl.brF ?_ | refine Tl.gd_on ?_ | refine Tl.gd3_on ?_) | ((with_reducible first | apply Tl.brC | apply Tl.gdC | apply Tl.gd3C); focus (simp (disch := omega) only [coreA, Int.reduceBEq, base_P2, h0, pa] <;> with_reducible rfl)))
    exact done _
  | true =>
    rw [qa] at pa
    cases qb : lightP b with
    | false =>
      rw [qb] at pb
      repeat (first | (with_reducible apply Tl.val; focus (simp (disch := omega) only [coreA, Int.reduceBEq, base_P2, h0, pa, pb] <;> with_reducible rfl)) | (with_reducible first | refine Tl.brT ?_ | refine Tl.brF ?_ | refine Tl.gd_on ?_ | refine Tl.gd3_on ?_) | ((with_reducible first | apply Tl.brC | apply Tl.gdC | apply Tl.gd3C); focus (simp (disch := omega) only [coreA, Int.reduceBEq, base_P2, h0, pa, pb] <;> with_reducible rfl)))
      exact done _
    | true =>
      rw [qb] at pb
      cases qr : lightR row with
      | false =>
        rw [qr] at pr
        repeat (first | (with_reducible apply Tl.val; focus (simp (disch := omega) only [coreA, Int.reduceBEq, base_P2, h0, pa, pb, pr] <;> with_reducible rfl)) | (with_reducible first | refine Tl.brT ?_ | refine Tl.brF ?_ | refine Tl.gd_on ?_ | refine Tl.gd3_on ?_) | ((with_reducible first | apply Tl.brC | apply Tl.gdC | apply Tl.gd3C); focus (simp (disch := omega) only [coreA, Int.reduceBEq, base_P2, h0, pa, pb, pr] <;> with_reducible rfl)))
        exact done _
      | true =>
        rw [qr] at pr
        unfold lightP at qa qb
        rw [Bool.and_eq_true, List.all_eq_true, decide_eq_true_iff] at qa qb
        unfold lightR at qr
        rw [Bool.and_eq_true, decide_eq_true_iff] at qr
        have la : ∀ nd ∈ a, nd.parts.length ≤ 900 := fun nd hnd => by
          have := qa.1 nd hnd
          simp [lightN] at this
          omega
        have lb : ∀ nd ∈ b, nd.parts.length ≤ 900 := fun nd hnd => by
          have := qb.1 nd hnd
          simp [lightN] at this
          omega
        have qa2 := qa.2
        have qb2 := qb.2
        have qr2 := qr.2
        have aa := f10e (k := k + 2999) A (by omega) la (by omega)
        have ab := f10e (k := k + 2999) B (by omega) lb (by omega)
        cases ha' : aheadF 0 a with
        | false =>
          rw [ha'] at aa
          repeat (first | (with_reducible apply Tl.val; focus (simp (disch := omega) only [coreA, Int.reduceBEq, base_P2, h0, pa, pb, pr, aa] <;> with_reducible rfl)) | (with_reducible first | refine Tl.brT ?_ | refine Tl.brF ?_ | refine Tl.gd_on ?_ | refine Tl.gd3_on ?_) | ((with_reducible first | apply Tl.brC | apply Tl.gdC | apply Tl.gd3C); focus (simp (disch := omega) only [coreA, Int.reduceBEq, base_P2, h0, pa, pb, pr, aa] <;> with_reducible rfl)))
          exact done _
        | true =>
          rw [ha'] at aa
          cases hb' : aheadF 0 b with
          | false =>
            rw [hb'] at ab
            repeat (first | (with_reducible apply Tl.val; focus (simp (disch := omega) only [coreA, Int.reduceBEq, base_P2, h0, pa, pb, pr, aa, ab] <;> with_reducible rfl)) | (with_reducible first | refine Tl.brT ?_ | refine Tl.brF ?_ | refine Tl.gd_on ?_ | refine Tl.gd3_on ?_) | ((with_reducible first | apply Tl.brC | apply Tl.gdC | apply Tl.gd3C); focus (simp (disch := omega) only [coreA, Int.reduceBEq, base_P2, h0, pa, pb, pr, aa, ab] <;> with_reducible rfl)))
            exact done _
          | true =>
            rw [hb'] at ab
            have ua : upto 20 a := (ahead_upto ha' la).up (by omega)
            have ub : upto 20 b := (ahead_upto hb' lb).up (by omega)
            obtain ⟨fa, ma, ca, rfl⟩ := A.form
            obtain ⟨fb, mb, cb, rfl⟩ := B.form
            repeat (first | (with_reducible apply Tl.val; focus (simp (disch := omega) only [coreA, Int.reduceBEq, base_P2, h0, pa, pb, pr, aa, ab] <;> with_reducible rfl)) | (with_reducible first | refine Tl.brT ?_ | refine Tl.brF ?_ | refine Tl.gd_on ?_ | refine Tl.gd3_on ?_) | ((with_reducible first | apply Tl.brC | apply Tl.gdC | apply Tl.gd3C); focus (simp (disch := omega) only [coreA, Int.reduceBEq, base_P2, h0, pa, pb, pr, aa, ab] <;> with_reducible rfl)))
            refine Tl.bind (f11c (k := k + 1800) A R (by omega) la (by omega)) ?_
            rintro ⟨w1, h1⟩ ⟨ew, g1⟩
            simp only at ew g1
            subst ew
            repeat (first | (with_reducible apply Tl.val; focus (simp (disch := omega) only [coreA, Int.reduceBEq, base_P2] <;> with_reducible rfl)) | (with_reducible first | refine Tl.brT ?_ | refine Tl.brF ?_ | refine Tl.gd_on ?_ | refine Tl.gd3_on ?_) | ((with_reducible first | apply Tl.brC | apply Tl.gdC | apply Tl.gd3C); focus (simp (disch := omega) only [coreA, Int.reduceBEq, base_P2] <;> with_reducible rfl)))
            refine Tl.bind (f11c (k := k + 1800) (B.grow g1) (R.grow g1) (by omega) lb (by omega)) ?_
            rintro ⟨w2, h2⟩ ⟨ew, g2⟩
            simp only at ew g2
            subst ew
            have g02 := g1.trans g2
            repeat (first | (with_reducible apply Tl.val; focus (simp (disch := omega) only [coreA, Int.reduceBEq, base_P2, bs45_1] <;> with_reducible rfl)) | (with_reducible first | refine Tl.brT ?_ | refine Tl.brF ?_ | refine Tl.gd_on ?_ | refine Tl.gd3_on ?_) | ((with_reducible first | apply Tl.brC | apply Tl.gdC | apply Tl.gd3C); focus (simp (disch := omega) only [coreA, Int.reduceBEq, base_P2, bs45_1] <;> with_reducible rfl)))
            refine Tl.bind (join1c (k := k + 1900) (op := 8) (A.grow g02) ua ⟨by omega, by omega⟩ (by omega)) ?_
            rintro ⟨vn, h3⟩ ⟨PN, UN, g3⟩
            simp only at PN UN g3
            have ln := joinL_len1 8 a
            have g03 := g02.trans g3
            repeat (first | (with_reducible apply Tl.val; focus (simp (disch := omega) only [coreA, Int.reduceBEq, base_P2, bs45_2] <;> with_reducible rfl)) | (with_reducible first | refine Tl.brT ?_ | refine Tl.brF ?_ | refine Tl.gd_on ?_ | refine Tl.gd3_on ?_) | ((with_reducible first | apply Tl.brC | apply Tl.gdC | apply Tl.gd3C); focus (simp (disch := omega) only [coreA, Int.reduceBEq, base_P2, bs45_2] <;> with_reducible rfl)))
            refine Tl.bind (join2c (k := k + 1900) (op := 6) (A.grow g03) (B.grow g03) ua ub ⟨by omega, by omega⟩ (by omega) (by omega)) ?_
            rintro ⟨v4, h4⟩ ⟨P4, U4, g4⟩
            simp only at P4 U4 g4
            have l4 := joinL_len2 6 a b
            have g04 := g03.trans g4
            obtain ⟨f4, m4, c4, rfl⟩ := P4.form
            repeat (first | (with_reducible apply Tl.val; focus (simp (disch := omega) only [coreA, Int.reduceBEq, base_P2, bs45_1] <;> with_reducible rfl)) | (with_reducible first | refine Tl.brT ?_ | refine Tl.brF ?_ | refine Tl.gd_on ?_ | refine Tl.gd3_on ?_) | ((with_reducible first | apply Tl.brC | apply Tl.gdC | apply Tl.gd3C); focus (simp (disch := omega) only [coreA, Int.reduceBEq, base_P2, bs45_1] <;> with_reducible rfl)))
            refine Tl.bind (join1c (k := k + 1900) (op := 8) P4 U4 ⟨by omega, by omega⟩ (by omega)) ?_
            rintro ⟨vl, h5⟩ ⟨PL, UL, g5⟩
            simp only at PL UL g5
            have ll := joinL_len1 8 (joinL 6 [a, b])
            have g05 := g04.trans g5
            repeat (first | (with_reducible apply Tl.val; focus (simp (disch := omega) only [coreA, Int.reduceBEq, base_P2, bs45_1] <;> with_reducible rfl)) | (with_reducible first | refine Tl.brT ?_ | refine Tl.brF ?_ | refine Tl.gd_on ?_ | refine Tl.gd3_on ?_) | ((with_reducible first | apply Tl.brC | apply Tl.gdC | apply Tl.gd3C); focus (simp (disch := omega) only [coreA, Int.reduceBEq, base_P2, bs45_1] <;> with_reducible rfl)))
            refine Tl.bind (join1c (k := k + 1900) (op := 8) (B.grow g05) ub ⟨by omega, by omega⟩ (by omega)) ?_
            rintro ⟨v6, h6⟩ ⟨P6, U6, g6⟩
            simp only at P6 U6 g6
            have l6 := joinL_len1 8 b
            have g06 := g05.trans g6
            have g36 := (g4.trans g5).trans g6
            obtain ⟨f6, m6, c6, rfl⟩ := P6.form
            obtain ⟨fn, mn, cn, rfl⟩ := PN.form
            repeat (first | (with_reducible apply Tl.val; focus (simp (disch := omega) only [coreA, Int.reduceBEq, base_P2, bs45_2] <;> with_reducible rfl)) | (with_reducible first | refine Tl.brT ?_ | refine Tl.brF ?_ | refine Tl.gd_on ?_ | refine Tl.gd3_on ?_) | ((with_reducible first | apply Tl.brC | apply Tl.gdC | apply Tl.gd3C); focus (simp (disch := omega) only [coreA, Int.reduceBEq, base_P2, bs45_2] <;> with_reducible rfl)))
            refine Tl.bind (join2c (k := k + 1900) (op := 7) (B := 100) (PN.grow g36) P6 (UN.up (by omega)) (U6.up (by omega)) ⟨by omega, by omega⟩ (by omega) (by omega)) ?_
            rintro ⟨vr, h7⟩ ⟨PR, UR, g7⟩
            simp only at PR UR g7
            have l7 := joinL_len2 7 (joinL 8 [a]) (joinL 8 [b])
            have g07 := g06.trans g7
            have en : holdsB row (joinL 8 [a]) = !holdsB row a := by
              rw [holds_join row 8 [a] (fun l hl => by simp at hl; subst hl; exact ua.nonneg), List.map_cons, List.map_nil, tell_not]
            have enb : holdsB row (joinL 8 [b]) = !holdsB row b := by
              rw [holds_join row 8 [b] (fun l hl => by simp at hl; subst hl; exact ub.nonneg), List.map_cons, List.map_nil, tell_not]
            have el : holdsB row (joinL 8 [joinL 6 [a, b]]) = !(holdsB row a && holdsB row b) := by
              rw [holds_join row 8 [joinL 6 [a, b]] (fun l hl => by simp at hl; subst hl; exact U4.nonneg), List.map_cons, List.map_nil, tell_not, holds_join row 6 [a, b] (fun l hl => by simp at hl; rcases hl with hl | hl <;> subst hl <;> first | exact ua.nonneg | exact ub.nonneg), List.map_cons, List.map_cons, List.map_nil, tell_and]
            have er : holdsB row (joinL 7 [joinL 8 [a], joinL 8 [b]]) = (!holdsB row a || !holdsB row b) := by
              rw [holds_join row 7 [joinL 8 [a], joinL 8 [b]] (fun l hl => by simp at hl; rcases hl with hl | hl <;> subst hl <;> first | exact UN.nonneg | exact U6.nonneg), List.map_cons, List.map_cons, List.map_nil, tell_or, en, enb]
            repeat (first | (with_reducible apply Tl.val; focus (simp (disch := omega) only [coreA, Int.reduceBEq, base_P2] <;> with_reducible rfl)) | (with_reducible first | refine Tl.brT ?_ | refine Tl.brF ?_ | refine Tl.gd_on ?_ | refine Tl.gd3_on ?_) | ((with_reducible first | apply Tl.brC | apply Tl.gdC | apply Tl.gd3C); focus (simp (disch := omega) only [coreA, Int.reduceBEq, base_P2] <;> with_reducible rfl)))
            refine f3_tail (k := k + 1700) (A.grow g07) (B.grow g07) (PN.grow (g36.trans g7)) (PL.grow (g6.trans g7)) PR (R.grow g07) (by omega) qa.2 qb.2 (by omega) (by omega) (by omega) ua ub (UN.up (by omega)) (UL.up (by omega)) (UR.up (by omega)) rfl rfl en ?_ fun h' => ?_
            · rw [el, er, Bool.not_and]
            · exact ⟨_, rfl, rfl⟩
end Go.Proofs.Ytmhgihjmhmihpaa.Sh
