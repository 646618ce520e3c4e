/- Totals over groups: the law's loops, and what they come to. -/
import Derived.Test.YtgklcfnjahomjaaSzY10
set_option linter.unusedVariables false
set_option linter.unusedSimpArgs false
set_option maxRecDepth 100000
namespace Go.Proofs.Ytgklcfnjahomjaa.Sh
open Go Go.RowKit Go.Proofs.Ev
theorem base_Y11 : type_of% (And.intro @ld3 (And.intro @ld2 (And.intro @ld9 (And.intro @ld37 (And.intro @ld28 (And.intro @ld42 (And.intro @ld34 (And.intro @ld22 (And.intro @ld24 (And.intro @ld23 (And.intro @ld29 (And.intro @fa37_0 (And.intro @fa37_1 (And.intro @fa37_2 (And.intro @fa28_0 (And.intro @fa28_1 (And.intro @fa42_0 (And.intro @fa42_1 (And.intro @fa42_2 (And.intro @nilC (And.intro @ex2_0 (And.intro @ex2_1 (@Nat.add_zero))))))))))))))))))))))) := And.intro @ld3 (And.intro @ld2 (And.intro @ld9 (And.intro @ld37 (And.intro @ld28 (And.intro @ld42 (And.intro @ld34 (And.intro @ld22 (And.intro @ld24 (And.intro @ld23 (And.intro @ld29 (And.intro @fa37_0 (And.intro @fa37_1 (And.intro @fa37_2 (And.intro @fa28_0 (And.intro @fa28_1 (And.intro @fa42_0 (And.intro @fa42_1 (And.intro @fa42_2 (And.intro @nilC (And.intro @ex2_0 (And.intro @ex2_1 (@Nat.add_zero))))))))))))))))))))))
/-! ### The law's sums, no program in sight -/
def combK (k : Nat) (o v : CellD) : CellD :=
  if v.k = 0 then o else if k = 0 ∨ k = 3 then ⟨v.k, IntKind.i64.wrap (o.i + v.i), o.s⟩ else if o.k = 0 ∨ (k = 1 ∧ v.cmp o < 0) ∨ (k = 2 ∧ v.cmp o > 0) then v else o
def cellAt (row : List CellD) (i : Nat) : CellD := (row[i]?).getD cellZ
def stepO (n : Nat) (row out : List CellD) : List CellD := out.mapIdx fun k o => combK k o (cellAt row (n + k))
def midO (n : Nat) (row out : List CellD) (j : Nat) : List CellD := out.mapIdx fun k o => if k < j then combK k o (cellAt row (n + k)) else o
theorem midO_0 (n : Nat) (row out : List CellD) : midO n row out 0 = out := by
  refine List.ext_getElem? fun k => ?_
  unfold midO
  rw [List.getElem?_mapIdx]
  cases out[k]? <;> simp
theorem midO_all (n : Nat) (row out : List CellD) {j : Nat} (h : out.length ≤ j) : midO n row out j = stepO n row out := by
  refine List.ext_getElem? fun k => ?_
  unfold midO stepO
  rw [List.getElem?_mapIdx, List.getElem?_mapIdx]
  cases e : out[k]? with
  | none => rfl
  | some x =>
    have := (List.getElem?_eq_some_iff.1 e).1
    simp only [Option.map_some]
    rw [if_pos (by omega)]
theorem midO_len (n : Nat) (row out : List CellD) (j : Nat) : (midO n row out j).length = out.length := by simp [midO]
theorem midO_at (n : Nat) (row out : List CellD) {j : Nat} {o : CellD} (h : out[j]? = some o) : (midO n row out j)[j]? = some o := by
  unfold midO
  rw [List.getElem?_mapIdx, h]
  simp
theorem midO_set (n : Nat) (row out : List CellD) {j : Nat} {o : CellD} (h : out[j]? = some o) : (midO n row out j).set j (combK j o (cellAt row (n + j))) = midO n row out (j + 1) := by
  refine List.ext_getElem? fun k => ?_
  rw [List.getElem?_set, midO_len]
  unfold midO
  rw [List.getElem?_mapIdx, List.getElem?_mapIdx]
  by_cases q : j = k
  · subst q
    have := (List.getElem?_eq_some_iff.1 h).1
    rw [if_pos rfl, if_pos this, h]
    simp
  · rw [if_neg q]
    cases out[k]? with
    | none => rfl
    | some x =>
      simp only [Option.map_some]
      by_cases q2 : k < j
      · rw [if_pos q2, if_pos (by omega)]
      · rw [if_neg q2, if_neg (by omega)]
def totO (n : Nat) (rows : List (List CellD)) (out : List CellD) : List CellD := rows.foldl (fun out row => stepO n row out) out
theorem totO_at (n : Nat) : ∀ (rows : List (List CellD)) (out : List CellD) (k : Nat), (totO n rows out)[k]? = (out[k]?).map fun o => rows.foldl (fun o row => combK k o (cellAt row (n + k))) o
  | [], out, k => by
    show out[k]? = _
    cases out[k]? <;> rfl
  | r :: rows, out, k => by
    show (totO n rows (stepO n r out))[k]? = _
    rw [totO_at n rows]
    unfold stepO
    rw [List.getElem?_mapIdx]
    cases out[k]? <;> rfl
def lawA (c : Nat) (b : Bool) : List AggD := [⟨1, 0⟩, ⟨3, c⟩, ⟨4, c⟩] ++ if b then [⟨2, c⟩] else []
theorem comb_out {c : Nat} {b : Bool} {k : Nat} {a : AggD} {t : Tel} (ha : (lawA c b)[k]? = some a) (h : Shp a t) (o : CellD) : telOut t o = combK k o (telTold t) := by
  have hk : k < 4 := by
    have := (List.getElem?_eq_some_iff.1 ha).1
    unfold lawA at this
    cases b <;> simp at this <;> omega
  have cases4 : k = 0 ∧ a = ⟨1, 0⟩ ∨ k = 1 ∧ a = ⟨3, c⟩ ∨ k = 2 ∧ a = ⟨4, c⟩ ∨ k = 3 ∧ a = ⟨2, c⟩ := by
    rcases k with _ | _ | _ | _ | k
    · simp [lawA] at ha; simp [ha]
    · simp [lawA] at ha; simp [ha]
    · simp [lawA] at ha; simp [ha]
    · cases b <;> simp [lawA] at ha; simp [ha]
    · exact absurd hk (by omega)
  unfold Shp at h
  rcases cases4 with ⟨rfl, rfl⟩ | ⟨rfl, rfl⟩ | ⟨rfl, rfl⟩ | ⟨rfl, rfl⟩
  · cases t <;> simp [telNew] at h
    simp [telOut, telTold, combK]
  · cases t <;> simp [telNew] at h
    obtain ⟨-, rfl⟩ := h
    simp only [telOut, telTold, combK, mostPut]
    rename_i v
    by_cases e : v.k = 0
    · simp [e]
    · simp [e]
  · cases t <;> simp [telNew] at h
    obtain ⟨-, rfl⟩ := h
    simp only [telOut, telTold, combK, mostPut]
    rename_i v
    by_cases e : v.k = 0
    · simp [e]
    · simp [e]
  · cases t <;> simp [telNew] at h
    simp only [telOut, telTold, combK, sumPut]
    simp
/-- Groups' parts are as long as they should be. -/
def GLen (n m : Nat) (gs : List GD) : Prop := ∀ x ∈ gs, x.1.length = n ∧ x.2.length = m
theorem GLen.add {n : Nat} {aggs : List AggD} {key : List CellD} (hk : key.length = n) (row : List CellD) : ∀ {gs : List GD}, GLen n aggs.length gs → GLen n aggs.length (addG aggs key row gs)
  | [], _ => fun x hx => by
    simp only [addG, List.mem_singleton] at hx
    subst hx
    exact ⟨hk, by simp⟩
  | y :: gs, h => fun x hx => by
    simp only [addG] at hx
    split at hx
    · rcases List.mem_cons.1 hx with rfl | hx
      · have := h y (List.mem_cons_self ..)
        exact ⟨this.1, by simp [this.2]⟩
      · exact h x (List.mem_cons_of_mem _ hx)
    · rcases List.mem_cons.1 hx with rfl | hx
      · exact h x (List.mem_cons_self ..)
      · exact GLen.add hk row (fun z hz => h z (List.mem_cons_of_mem _ hz)) x hx
theorem accG_glen (aggs : List AggD) (by_ : List Int) : ∀ (rows : List (List CellD)) {gs : List GD}, GLen by_.length aggs.length gs → GLen by_.length aggs.length (rows.foldl (fun gs row => addG aggs (pickL row by_) row gs) gs)
  | [], _, h => h
  | r :: rows, gs, h => accG_glen aggs by_ rows (GLen.add (by unfold pickL; simp) r h)
theorem newG_glen (aggs : List AggD) (by_ : List Int) : GLen by_.length aggs.length (newG aggs by_) := by
  unfold newG
  split
  · rename_i q
    intro x hx
    simp only [List.mem_singleton] at hx
    subst hx
    simp [q]
  · intro x hx; cases hx
def out0 (m : Nat) : List CellD := (List.replicate m cellZ).set 0 ⟨1, 0, .empty⟩
theorem out0_at {c : Nat} {b : Bool} {k : Nat} {a : AggD} (ha : (lawA c b)[k]? = some a) : (out0 (lawA c b).length)[k]? = some (telTold (telNew a)) := by
  rcases k with _ | _ | _ | _ | k
  · simp [lawA] at ha; subst ha; rfl
  · simp [lawA] at ha; subst ha; cases b <;> rfl
  · simp [lawA] at ha; subst ha; cases b <;> rfl
  · cases b <;> simp [lawA] at ha
    subst ha; rfl
  · exfalso
    have := (List.getElem?_eq_some_iff.1 ha).1
    unfold lawA at this
    cases b <;> simp at this <;> omega
/-- What the groups tell together is what all tell. -/
theorem totals_eq {c : Nat} {b : Bool} {by_ : List Int} {rows : List (List CellD)} (hr : ∀ a ∈ lawA c b, ∀ r ∈ rows, rowA a r) {q1 q2 : List GD} (h1 : q1.Perm (accG (lawA c b) [] rows)) (h2 : q2.Perm (accG (lawA c b) by_ rows)) :
    q1.map rowT = [totO by_.length (q2.map rowT) (out0 (lawA c b).length)] ∧ ∃ r, q1.map rowT = [r] ∧ r.length = (lawA c b).length := by
  obtain ⟨ts, e1, e2, e3⟩ := totals by_ rows hr
  rw [e1] at h1
  have eq1 := h1.eq_singleton
  rw [eq1]
  have er : rowT (([], ts) : GD) = ts.map telTold := by unfold rowT; simp
  refine ⟨?_, _, rfl, by rw [er]; simpa using e2⟩
  simp only [List.map_cons, List.map_nil, List.cons.injEq, and_true]
  rw [er]
  refine List.ext_getElem? fun k => ?_
  rw [totO_at]
  cases ha : (lawA c b)[k]? with
  | none =>
    have hk := List.getElem?_eq_none_iff.1 ha
    rw [List.getElem?_eq_none (by simp; omega), List.getElem?_eq_none (by simp [out0]; omega)]
    rfl
  | some a =>
    obtain ⟨hg, ht⟩ := e3 k a q2 ha h2
    rw [ht, out0_at ha, Option.map_some]
    congr 1
    have hlen : GLen by_.length (lawA c b).length q2 := fun x hx => accG_glen _ _ rows (newG_glen _ _) x (h2.mem_iff.1 hx)
    generalize telTold (telNew a) = o
    clear ht h2 e3
    induction q2 generalizing o with
    | nil => rfl
    | cons x l ih =>
      obtain ⟨t, t1, t2⟩ := hg x (List.mem_cons_self ..)
      obtain ⟨l1, l2⟩ := hlen x (List.mem_cons_self ..)
      have ex : outG1 k o x = combK k o (cellAt (rowT x) (by_.length + k)) := by
        unfold outG1 cellAt rowT
        rw [t1, List.getElem?_append_right (by omega), l1, Nat.add_sub_cancel_left, List.getElem?_map, t1]
        exact comb_out ha t2 o
      show outG k (outG1 k o x) l = _
      rw [ex, List.map_cons, List.foldl_cons]
      exact ih (fun z hz => hg z (List.mem_cons_of_mem _ hz)) (fun z hz => hlen z (List.mem_cons_of_mem _ hz)) _
theorem set_same {α : Type} {l : List α} {i : Nat} {x : α} (h : l[i]? = some x) : l.set i x = l := by
  refine List.ext_getElem? fun k => ?_
  rw [List.getElem?_set]
  by_cases q : i = k
  · subst q
    have := (List.getElem?_eq_some_iff.1 h).1
    rw [if_pos rfl, if_pos this, h]
  · rw [if_neg q]
/-! ### The law's loops -/
section
variable {h0 : AH} {β : Type} {Q : β → Prop}
theorem f4_body {k : Nat} {h : AH} {b : Nat} {out : List CellD} {pv a10 a11 : Value} {parts : List (List CellD)} {n i m : Nat} {row : List CellD} {o v : CellD} {x128 : Value} {q : Nat} (hq : out.length = q) (S : Stt Try.prog h0.n h0 h [(b, .cells (flatC out) 37 true)] []) (R : Rows h0 pv parts)
    (hrow : parts[i]? = some row) (hv : row[n + m]? = some v) (ho : out[m]? = some o) (hn : n ≤ 20) (hm : m < 4) (hi : i ≤ 1000) {kn : Value → Value → Value → Value → Value → Value → Value → Value → Value → Value → AH → Option β}
    (hk : ∀ h' y1 y2 y3, Stt Try.prog h0.n h0 h' [(b, .cells (flatC (out.set m (combK m o v))) 37 true)] [] → Tl (kn a10 a11 pv (.int .i64 n) (.slice (some ⟨b, 0, none⟩) q q) (.int .i64 i) (.int .i64 m) y1 y2 y3 h') Q) :
    Tl (F4_lrllrrllrllrlrrrrrrrrrrrrrr (eInv env (k + 2)) (k + 2) a10 a11 pv (.int .i64 n) (.slice (some ⟨b, 0, none⟩) q q) (.int .i64 i) (.int .i64 m) x128 h kn) Q := by
  subst hq
  obtain ⟨b1, o1, w, hp, hc0, Cw0⟩ := R.at_ hrow
  have hc := S.grow.cell hc0
  have Cw := Cw0.grow S.grow
  obtain ⟨b2, o2, hp2, hrow2⟩ := Cw.at_ hv
  have enm : ((n + m : Nat) : Int) = (n : Int) + m := by omega
  rw [enm] at hp2
  simp only [F4_lrllrrllrllrlrrrrrrrrrrrrrr]
  repeat (first | (with_reducible apply Tl.val; focus (simp (disch := omega) only [coreA, Int.reduceBEq, base_Y11, hp, hc, hp2, hrow2] <;> with_reducible rfl)) | (with_reducible first | refine Tl.brT ?_ | refine Tl.brF ?_ | refine Tl.gd_on ?_ | refine Tl.gd3_on ?_) | ((with_reducible first | apply Tl.brC | apply Tl.gdC | apply Tl.gd3C); focus (simp (disch := omega) only [coreA, Int.reduceBEq, base_Y11, hp, hc, hp2, hrow2] <;> with_reducible rfl)))
  refine Tl.alloc' S ze37 (by rfl) fun b9 h1 S1 g1 => ?_
  refine Tl.store' S1 0 rfl sz37 rfl rfl (by decide) fun h2 S2 k2 => ?_
  have S2 : Stt Try.prog h0.n h0 h2 ((b9, .cells (crow v) 37 true) :: [(b, .cells (flatC out) 37 true)]) [] := S2
  have S2' := S2.perm (.swap _ _ _)
  have c0 : h2.cell b9 0 = some (.int .i64 v.k) := S2.cell 0 rfl rfl
  have c1 : h2.cell b9 1 = some (.int .i64 v.i) := S2.cell 0 rfl rfl
  have r9 : h2.row b9 0 3 = some (crow v) := S2.row 0 rfl rfl
  obtain ⟨ix, ir⟩ := outIdx S2' ho
  have o0 : h2.cell b (m * 3) = some (.int .i64 o.k) := by have := Ev.cell_of_row (j := 0) ir (by omega); simpa [crow] using this
  have o1 : h2.cell b (m * 3 + 1) = some (.int .i64 o.i) := by have := Ev.cell_of_row (j := 1) ir (by omega); simpa [crow] using this
  have hml : m < out.length := (List.getElem?_eq_some_iff.1 ho).1
  have hfl := flatC_len out
  by_cases e0 : v.k = 0
  · repeat (first | (with_reducible apply Tl.val; focus (simp (disch := omega) only [coreA, Int.reduceBEq, base_Y11, c0] <;> with_reducible rfl)) | (with_reducible first | refine Tl.brT ?_ | refine Tl.brF ?_ | refine Tl.gd_on ?_ | refine Tl.gd3_on ?_) | ((with_reducible first | apply Tl.brC | apply Tl.gdC | apply Tl.gd3C); focus (simp (disch := omega) only [coreA, Int.reduceBEq, base_Y11, c0] <;> with_reducible rfl)))
    have ec : out.set m (combK m o v) = out := by
      unfold combK
      rw [if_pos e0]
      exact set_same ho
    rw [ec] at hk
    exact hk _ _ _ _ S2.drop
  · repeat (first | (with_reducible apply Tl.val; focus (simp (disch := omega) only [coreA, Int.reduceBEq, base_Y11, c0] <;> with_reducible rfl)) | (with_reducible first | refine Tl.brT ?_ | refine Tl.brF ?_ | refine Tl.gd_on ?_ | refine Tl.gd3_on ?_) | ((with_reducible first | apply Tl.brC | apply Tl.gdC | apply Tl.gd3C); focus (simp (disch := omega) only [coreA, Int.reduceBEq, base_Y11, c0] <;> with_reducible rfl)))
    simp only [G4_30]
    by_cases q : m = 0 ∨ m = 3
    · have fin : ∀ h', Stt Try.prog h0.n h0 h' ((b, .cells (flatC (out.set m ⟨v.k, IntKind.i64.wrap (o.i + v.i), o.s⟩)) 37 true) :: [(b9, .cells (crow v) 37 true)]) [] → Tl (kn a10 a11 pv (.int .i64 n) (.slice (some ⟨b, 0, none⟩) out.length out.length) (.int .i64 i) (.int .i64 m) unk unk unk h') Q := fun h' S' => by
        have ec : combK m o v = ⟨v.k, IntKind.i64.wrap (o.i + v.i), o.s⟩ := by
          unfold combK
          rw [if_neg e0, if_pos q]
        rw [ec] at hk
        exact hk _ _ _ _ (S'.perm (.swap _ _ _)).drop
      have mid : Tl (G4_31 (eInv env (k + 2)) a10 a11 pv (.int .i64 n) (.slice (some ⟨b, 0, none⟩) out.length out.length) (.int .i64 i) (.int .i64 m) (.pointer (some ⟨b9, 0, none⟩)) h2 fun h' => kn a10 a11 pv (.int .i64 n) (.slice (some ⟨b, 0, none⟩) out.length out.length) (.int .i64 i) (.int .i64 m) unk unk unk h') Q := by
        simp only [G4_31]
        repeat (first | (with_reducible apply Tl.val; focus (simp (disch := omega) only [coreA, Int.reduceBEq, base_Y11, c0, c1, o1, ix] <;> with_reducible rfl)) | (with_reducible first | refine Tl.brT ?_ | refine Tl.brF ?_ | refine Tl.gd_on ?_ | refine Tl.gd3_on ?_) | ((with_reducible first | apply Tl.brC | apply Tl.gdC | apply Tl.gd3C); focus (simp (disch := omega) only [coreA, Int.reduceBEq, base_Y11, c0, c1, o1, ix] <;> with_reducible rfl)))
        refine Tl.store' S2' 0 rfl sz3 rfl rfl (by rw [hfl]; show m * 3 + 1 ≤ _; omega) fun h3 S3 k3 => ?_
        have e1 : splice (flatC out) (m * 3) (Value.int .i64 v.k).cells.toList = flatC (out.set m ⟨v.k, o.i, o.s⟩) := flatC_put (o := 0) (c' := ⟨v.k, o.i, o.s⟩) (by show 0 + 1 ≤ 3; omega) rfl ho
        have S3 : Stt Try.prog h0.n h0 h3 ((b, .cells (flatC (out.set m ⟨v.k, o.i, o.s⟩)) 37 true) :: [(b9, .cells (crow v) 37 true)]) [] := by
          rw [← e1]; exact S3
        have c1' : h3.cell b9 1 = some (.int .i64 v.i) := S3.cell 1 rfl rfl
        repeat (first | (with_reducible apply Tl.val; focus (simp (disch := omega) only [coreA, Int.reduceBEq, base_Y11, ix] <;> with_reducible rfl)) | (with_reducible first | refine Tl.brT ?_ | refine Tl.brF ?_ | refine Tl.gd_on ?_ | refine Tl.gd3_on ?_) | ((with_reducible first | apply Tl.brC | apply Tl.gdC | apply Tl.gd3C); focus (simp (disch := omega) only [coreA, Int.reduceBEq, base_Y11, ix] <;> with_reducible rfl)))
        refine Tl.store' S3 0 rfl sz2 rfl rfl (by rw [flatC_len, List.length_set]; show m * 3 + 1 + 1 ≤ _; omega) fun h4 S4 k4 => ?_
        have e2 : splice (flatC (out.set m ⟨v.k, o.i, o.s⟩)) (m * 3 + 1) (Value.int .i64 (IntKind.i64.wrap (o.i + v.i))).cells.toList = flatC (out.set m ⟨v.k, IntKind.i64.wrap (o.i + v.i), o.s⟩) := by
          have := flatC_put (c := ⟨v.k, o.i, o.s⟩) (c' := ⟨v.k, IntKind.i64.wrap (o.i + v.i), o.s⟩) (o := 1) (xs := [.int .i64 (IntKind.i64.wrap (o.i + v.i))]) (by show 1 + 1 ≤ 3; omega) rfl (l := out.set m ⟨v.k, o.i, o.s⟩) (k := m) (by rw [List.getElem?_set_self hml])
          rw [List.set_set] at this
          exact this
        repeat (first | (with_reducible apply Tl.val; focus (simp (disch := omega) only [coreA, Int.reduceBEq, base_Y11] <;> with_reducible rfl)) | (with_reducible first | refine Tl.brT ?_ | refine Tl.brF ?_ | refine Tl.gd_on ?_ | refine Tl.gd3_on ?_) | ((with_reducible first | apply Tl.brC | apply Tl.gdC | apply Tl.gd3C); focus (simp (disch := omega) only [coreA, Int.reduceBEq, base_Y11] <;> with_reducible rfl)))
        simp only [ld2, c1, c1', sameO_some, sameV_int, Bool.and_self, Bool.not_true, Bool.false_or, Bool.and_true, chkK_t]
        refine fin _ ?_
        rw [← e2]
        exact S4
      rcases q with rfl | rfl
      · repeat (first | (with_reducible apply Tl.val; focus (simp (disch := omega) only [coreA, Int.reduceBEq, base_Y11] <;> with_reducible rfl)) | (with_reducible first | refine Tl.brT ?_ | refine Tl.brF ?_ | refine Tl.gd_on ?_ | refine Tl.gd3_on ?_) | ((with_reducible first | apply Tl.brC | apply Tl.gdC | apply Tl.gd3C); focus (simp (disch := omega) only [coreA, Int.reduceBEq, base_Y11] <;> with_reducible rfl)))
        exact mid
      · repeat (first | (with_reducible apply Tl.val; focus (simp (disch := omega) only [coreA, Int.reduceBEq, base_Y11] <;> with_reducible rfl)) | (with_reducible first | refine Tl.brT ?_ | refine Tl.brF ?_ | refine Tl.gd_on ?_ | refine Tl.gd3_on ?_) | ((with_reducible first | apply Tl.brC | apply Tl.gdC | apply Tl.gd3C); focus (simp (disch := omega) only [coreA, Int.reduceBEq, base_Y11] <;> with_reducible rfl)))
        exact mid
    · have q12 : m = 1 ∨ m = 2 := by omega
      have keep : (¬ (o.k = 0 ∨ (m = 1 ∧ v.cmp o < 0) ∨ (m = 2 ∧ v.cmp o > 0))) → ∀ h' y1 y2 y3, Stt Try.prog h0.n h0 h' ((b9, .cells (crow v) 37 true) :: [(b, .cells (flatC out) 37 true)]) [] → Tl (kn a10 a11 pv (.int .i64 n) (.slice (some ⟨b, 0, none⟩) out.length out.length) (.int .i64 i) (.int .i64 m) y1 y2 y3 h') Q := fun hne h' y1 y2 y3 S' => by
        have ec : out.set m (combK m o v) = out := by
          unfold combK
          rw [if_neg e0, if_neg q, if_neg hne]
          exact set_same ho
        rw [ec] at hk
        exact hk _ _ _ _ S'.drop
      have take : (o.k = 0 ∨ (m = 1 ∧ v.cmp o < 0) ∨ (m = 2 ∧ v.cmp o > 0)) → ∀ h', Stt Try.prog h0.n h0 h' ((b9, .cells (crow v) 37 true) :: [(b, .cells (flatC out) 37 true)]) [] → h'.row b9 0 3 = some (crow v) →
          Tl (bnd (pLoad Try.prog 37 (.pointer (some ⟨b9, 0, none⟩)) h') fun x204 => bnd (pIndexAddr Try.prog 34 (.slice (some ⟨b, 0, none⟩) out.length out.length) (.int .i64 m)) fun x205 => bnd (kSt (pStore Try.prog 37 x205 x204 h')) fun u => kn a10 a11 pv (.int .i64 n) (.slice (some ⟨b, 0, none⟩) out.length out.length) (.int .i64 i) (.int .i64 m) unk unk unk u.2) Q := fun hy h' S' r' => by
        repeat (first | (with_reducible apply Tl.val; focus (simp (disch := omega) only [coreA, Int.reduceBEq, base_Y11, r', ix] <;> with_reducible rfl)) | (with_reducible first | refine Tl.brT ?_ | refine Tl.brF ?_ | refine Tl.gd_on ?_ | refine Tl.gd3_on ?_) | ((with_reducible first | apply Tl.brC | apply Tl.gdC | apply Tl.gd3C); focus (simp (disch := omega) only [coreA, Int.reduceBEq, base_Y11, r', ix] <;> with_reducible rfl)))
        refine Tl.store' S' 1 rfl sz37 rfl rfl (by rw [hfl]; show m * 3 + 3 ≤ _; omega) fun h3 S3 k3 => ?_
        have e1 : splice (flatC out) (m * 3) (CellD.v v).cells.toList = flatC (out.set m v) := flatC_put (o := 0) (c' := v) (by show 0 + 3 ≤ 3; omega) rfl ho
        have ec : combK m o v = v := by
          unfold combK
          rw [if_neg e0, if_neg q, if_pos hy]
        rw [ec] at hk
        refine hk _ _ _ _ ?_
        rw [← e1]
        exact S3.drop
      have rb : ∀ h', Stt Try.prog h0.n h0 h' ((b9, .cells (crow v) 37 true) :: [(b, .cells (flatC out) 37 true)]) [] → h'.row b (m * 3) 3 = some (crow o) := fun h' S' => (outIdx (S'.perm (.swap _ _ _)) ho).2
      have r2 := rb h2 S2
      by_cases q0 : o.k = 0
      · rcases q12 with rfl | rfl
        · simp only [G4_32]
          repeat (first | (with_reducible apply Tl.val; focus (simp (disch := omega) only [coreA, Int.reduceBEq, base_Y11, o0, ix] <;> with_reducible rfl)) | (with_reducible first | refine Tl.brT ?_ | refine Tl.brF ?_ | refine Tl.gd_on ?_ | refine Tl.gd3_on ?_) | ((with_reducible first | apply Tl.brC | apply Tl.gdC | apply Tl.gd3C); focus (simp (disch := omega) only [coreA, Int.reduceBEq, base_Y11, o0, ix] <;> with_reducible rfl)))
          exact take (.inl q0) _ S2 r9
        · simp only [G4_32]
          repeat (first | (with_reducible apply Tl.val; focus (simp (disch := omega) only [coreA, Int.reduceBEq, base_Y11, o0, ix] <;> with_reducible rfl)) | (with_reducible first | refine Tl.brT ?_ | refine Tl.brF ?_ | refine Tl.gd_on ?_ | refine Tl.gd3_on ?_) | ((with_reducible first | apply Tl.brC | apply Tl.gdC | apply Tl.gd3C); focus (simp (disch := omega) only [coreA, Int.reduceBEq, base_Y11, o0, ix] <;> with_reducible rfl)))
          exact take (.inl q0) _ S2 r9
      · rcases q12 with rfl | rfl
        · simp only [G4_32]
          repeat (first | (with_reducible apply Tl.val; focus (simp (disch := omega) only [coreA, Int.reduceBEq, base_Y11, o0, ix, r9, r2] <;> with_reducible rfl)) | (with_reducible first | refine Tl.brT ?_ | refine Tl.brF ?_ | refine Tl.gd_on ?_ | refine Tl.gd3_on ?_) | ((with_reducible first | apply Tl.brC | apply Tl.gdC | apply Tl.gd3C); focus (simp (disch := omega) only [coreA, Int.reduceBEq, base_Y11, o0, ix, r9, r2] <;> with_reducible rfl)))
          refine Tl.call' S2 (f14c (k := k) v o h2) fun h3 S3 g3 => ?_
          have r3 := g3.row r9
          by_cases q1 : v.cmp o < 0
          · repeat (first | (with_reducible apply Tl.val; focus (simp (disch := omega) only [coreA, Int.reduceBEq, base_Y11] <;> with_reducible rfl)) | (with_reducible first | refine Tl.brT ?_ | refine Tl.brF ?_ | refine Tl.gd_on ?_ | refine Tl.gd3_on ?_) | ((with_reducible first | apply Tl.brC | apply Tl.gdC | apply Tl.gd3C); focus (simp (disch := omega) only [coreA, Int.reduceBEq, base_Y11] <;> with_reducible rfl)))
            exact take (.inr (.inl ⟨rfl, q1⟩)) _ S3 r3
          · repeat (first | (with_reducible apply Tl.val; focus (simp (disch := omega) only [coreA, Int.reduceBEq, base_Y11] <;> with_reducible rfl)) | (with_reducible first | refine Tl.brT ?_ | refine Tl.brF ?_ | refine Tl.gd_on ?_ | refine Tl.gd3_on ?_) | ((with_reducible first | apply Tl.brC | apply Tl.gdC | apply Tl.gd3C); focus (simp (disch := omega) only [coreA, Int.reduceBEq, base_Y11] <;> with_reducible rfl)))
            exact keep (fun h => by rcases h with h | h | h <;> first | exact q0 h | exact q1 h.2 | omega) _ _ _ _ S3
        · simp only [G4_32]
          repeat (first | (with_reducible apply Tl.val; focus (simp (disch := omega) only [coreA, Int.reduceBEq, base_Y11, o0, ix, r9, r2] <;> with_reducible rfl)) | (with_reducible first | refine Tl.brT ?_ | refine Tl.brF ?_ | refine Tl.gd_on ?_ | refine Tl.gd3_on ?_) | ((with_reducible first | apply Tl.brC | apply Tl.gdC | apply Tl.gd3C); focus (simp (disch := omega) only [coreA, Int.reduceBEq, base_Y11, o0, ix, r9, r2] <;> with_reducible rfl)))
          refine Tl.call' S2 (f14c (k := k) v o h2) fun h3 S3 g3 => ?_
          have r3 := g3.row r9
          by_cases q1 : v.cmp o > 0
          · repeat (first | (with_reducible apply Tl.val; focus (simp (disch := omega) only [coreA, Int.reduceBEq, base_Y11] <;> with_reducible rfl)) | (with_reducible first | refine Tl.brT ?_ | refine Tl.brF ?_ | refine Tl.gd_on ?_ | refine Tl.gd3_on ?_) | ((with_reducible first | apply Tl.brC | apply Tl.gdC | apply Tl.gd3C); focus (simp (disch := omega) only [coreA, Int.reduceBEq, base_Y11] <;> with_reducible rfl)))
            exact take (.inr (.inr ⟨rfl, q1⟩)) _ S3 r3
          · repeat (first | (with_reducible apply Tl.val; focus (simp (disch := omega) only [coreA, Int.reduceBEq, base_Y11] <;> with_reducible rfl)) | (with_reducible first | refine Tl.brT ?_ | refine Tl.brF ?_ | refine Tl.gd_on ?_ | refine Tl.gd3_on ?_) | ((with_reducible first | apply Tl.brC | apply Tl.gdC | apply Tl.gd3C); focus (simp (disch := omega) only [coreA, Int.reduceBEq, base_Y11] <;> with_reducible rfl)))
            exact keep (fun h => by rcases h with h | h | h <;> first | exact q0 h | exact q1 h.2 | omega) _ _ _ _ S3
theorem f4_in {k : Nat} {b : Nat} {out0 : List CellD} {lv pv a11 : Value} {l : List AggD} {parts : List (List CellD)} {n i : Nat} {row : List CellD} (G : Aggs h0 lv l) (R : Rows h0 pv parts)
    (hrow : parts[i]? = some row) (hlen : row.length = n + l.length) (hol : out0.length = l.length) {q : Nat} (hq : out0.length = q) (hn : n ≤ 20) (hm : l.length ≤ 4) (hi : i ≤ 1000) {ke2 : Value → Value → Value → Value → Value → Value → Value → Value → AH → Option β} (w : Nat) :
    ∀ {m j : Nat} {h : AH}, m + w = l.length → w < j → Stt Try.prog h0.n h0 h [(b, .cells (flatC (midO n row out0 m)) 37 true)] [] →
      (∀ h' y1 y2, Stt Try.prog h0.n h0 h' [(b, .cells (flatC (stepO n row out0)) 37 true)] [] → Tl (ke2 lv a11 pv (.int .i64 n) (.slice (some ⟨b, 0, none⟩) q q) (.int .i64 i) y1 y2 h') Q) →
      Tl (F4_lrrllrllrlrrrrrrrrrrrrrr (eInv env (k + 2)) (k + 2) j lv a11 pv (.int .i64 n) (.slice (some ⟨b, 0, none⟩) q q) (.int .i64 i) (.int .i64 m) h ke2) Q := by
  have hv : ∀ h', pLen Try.prog #[29] lv h' = some (.int .i64 l.length) := fun h' => G.len
  induction w with
  | zero =>
    intro m j h hw hj S hk
    obtain ⟨j, rfl⟩ : ∃ q, j = q + 1 := ⟨j - 1, by omega⟩
    simp only [F4_lrrllrllrlrrrrrrrrrrrrrr]
    repeat (first | (with_reducible apply Tl.val; focus (simp (disch := omega) only [coreA, Int.reduceBEq, base_Y11, hv] <;> with_reducible rfl)) | (with_reducible first | refine Tl.brT ?_ | refine Tl.brF ?_ | refine Tl.gd_on ?_ | refine Tl.gd3_on ?_) | ((with_reducible first | apply Tl.brC | apply Tl.gdC | apply Tl.gd3C); focus (simp (disch := omega) only [coreA, Int.reduceBEq, base_Y11, hv] <;> with_reducible rfl)))
    rw [midO_all _ _ _ (by omega)] at S
    exact hk _ _ _ S
  | succ w ih =>
    intro m j h hw hj S hk
    obtain ⟨j, rfl⟩ : ∃ q, j = q + 1 := ⟨j - 1, by omega⟩
    have e : (m : Int) + 1 = ((m + 1 : Nat) : Int) := by omega
    obtain ⟨o, eo⟩ : ∃ x, out0[m]? = some x := ⟨_, List.getElem?_eq_getElem (by omega)⟩
    obtain ⟨v, ev⟩ : ∃ x, row[n + m]? = some x := ⟨_, List.getElem?_eq_getElem (by omega)⟩
    have em : combK m o v = combK m o (cellAt row (n + m)) := by unfold cellAt; rw [ev]; rfl
    simp only [F4_lrrllrllrlrrrrrrrrrrrrrr]
    repeat (first | (with_reducible apply Tl.val; focus (simp (disch := omega) only [coreA, Int.reduceBEq, base_Y11, hv] <;> with_reducible rfl)) | (with_reducible first | refine Tl.brT ?_ | refine Tl.brF ?_ | refine Tl.gd_on ?_ | refine Tl.gd3_on ?_) | ((with_reducible first | apply Tl.brC | apply Tl.gdC | apply Tl.gd3C); focus (simp (disch := omega) only [coreA, Int.reduceBEq, base_Y11, hv] <;> with_reducible rfl)))
    refine f4_body (k := k) (by rw [midO_len]; exact hq) S R hrow ev (midO_at n row out0 eo) hn (by omega) hi fun h' y1 y2 y3 S' => ?_
    repeat (first | (with_reducible apply Tl.val; focus (simp (disch := omega) only [coreA, Int.reduceBEq, base_Y11] <;> with_reducible rfl)) | (with_reducible first | refine Tl.brT ?_ | refine Tl.brF ?_ | refine Tl.gd_on ?_ | refine Tl.gd3_on ?_) | ((with_reducible first | apply Tl.brC | apply Tl.gdC | apply Tl.gd3C); focus (simp (disch := omega) only [coreA, Int.reduceBEq, base_Y11] <;> with_reducible rfl)))
    rw [e]
    rw [em, midO_set n row out0 eo] at S'
    exact ih (by omega) (by omega) S' hk
theorem f4_out {k : Nat} {b : Nat} {lv pv a11 : Value} {l : List AggD} {parts : List (List CellD)} {n : Nat} {out0 : List CellD} (G : Aggs h0 lv l) (R : Rows h0 pv parts)
    (hlen : ∀ r ∈ parts, r.length = n + l.length) (hol : out0.length = l.length) {q : Nat} (hq : out0.length = q) (hn : n ≤ 20) (hm : l.length ≤ 4) (hi : parts.length ≤ 1000) (hk4 : 4 < k + 2) {ke0 : Value → Value → Value → Value → Value → Value → Value → AH → Option β} {kr : Value → AH → Option β} (w : Nat) :
    ∀ {i j : Nat} {h : AH} {out : List CellD}, i + w = parts.length → w < j → out.length = out0.length → out = totO n (parts.take i) out0 → Stt Try.prog h0.n h0 h [(b, .cells (flatC out) 37 true)] [] →
      (∀ h' y1 y2 y3 y4 y5, Stt Try.prog h0.n h0 h' [(b, .cells (flatC (totO n parts out0)) 37 true)] [] → Tl (ke0 y1 a11 y2 y3 (.slice (some ⟨b, 0, none⟩) q q) y4 y5 h') Q) →
      Tl (F4_lrlrrrrrrrrrrrrrr (eInv env (k + 2)) (k + 2) j lv a11 pv (.int .i64 n) (.slice (some ⟨b, 0, none⟩) q q) (.int .i64 i) h ke0 kr) Q := by
  have hv : ∀ h', pLen Try.prog #[29] lv h' = some (.int .i64 l.length) := fun h' => G.len
  have hp : ∀ h', pLen Try.prog #[23] pv h' = some (.int .i64 parts.length) := fun h' => R.len
  induction w with
  | zero =>
    intro i j h out hw hj hol2 ho S hk
    obtain ⟨j, rfl⟩ : ∃ q, j = q + 1 := ⟨j - 1, by omega⟩
    simp only [F4_lrlrrrrrrrrrrrrrr]
    repeat (first | (with_reducible apply Tl.val; focus (simp (disch := omega) only [coreA, Int.reduceBEq, base_Y11, hp] <;> with_reducible rfl)) | (with_reducible first | refine Tl.brT ?_ | refine Tl.brF ?_ | refine Tl.gd_on ?_ | refine Tl.gd3_on ?_) | ((with_reducible first | apply Tl.brC | apply Tl.gdC | apply Tl.gd3C); focus (simp (disch := omega) only [coreA, Int.reduceBEq, base_Y11, hp] <;> with_reducible rfl)))
    rw [ho, List.take_of_length_le (by omega)] at S
    exact hk _ _ _ _ _ _ S
  | succ w ih =>
    intro i j h out hw hj hol2 ho S hk
    obtain ⟨j, rfl⟩ : ∃ q, j = q + 1 := ⟨j - 1, by omega⟩
    have e : (i : Int) + 1 = ((i + 1 : Nat) : Int) := by omega
    obtain ⟨row, er⟩ : ∃ x, parts[i]? = some x := ⟨_, List.getElem?_eq_getElem (by omega)⟩
    obtain ⟨b1, o1, w', hpi, hc0, Cw0⟩ := R.at_ er
    have hc := S.grow.cell hc0
    have hl := hlen row (List.mem_of_getElem? er)
    have hw' : ∀ h', pLen Try.prog #[34] w' h' = some (.int .i64 row.length) := fun h' => Cw0.len
    simp only [F4_lrlrrrrrrrrrrrrrr]
    repeat (first | (with_reducible apply Tl.val; focus (simp (disch := omega) only [coreA, Int.reduceBEq, base_Y11, hp, hpi, hc, hw', hv] <;> with_reducible rfl)) | (with_reducible first | refine Tl.brT ?_ | refine Tl.brF ?_ | refine Tl.gd_on ?_ | refine Tl.gd3_on ?_) | ((with_reducible first | apply Tl.brC | apply Tl.gdC | apply Tl.gd3C); focus (simp (disch := omega) only [coreA, Int.reduceBEq, base_Y11, hp, hpi, hc, hw', hv] <;> with_reducible rfl)))
    refine f4_in (k := k) (b := b) (out0 := out) G R er hl (by omega) (by omega) hn hm (by omega) l.length (m := 0) (by omega) (by omega) (by rw [midO_0]; exact S) fun h' y1 y2 S' => ?_
    repeat (first | (with_reducible apply Tl.val; focus (simp (disch := omega) only [coreA, Int.reduceBEq, base_Y11] <;> with_reducible rfl)) | (with_reducible first | refine Tl.brT ?_ | refine Tl.brF ?_ | refine Tl.gd_on ?_ | refine Tl.gd3_on ?_) | ((with_reducible first | apply Tl.brC | apply Tl.gdC | apply Tl.gd3C); focus (simp (disch := omega) only [coreA, Int.reduceBEq, base_Y11] <;> with_reducible rfl)))
    rw [e]
    refine ih (out := stepO n row out) (by omega) (by omega) (by unfold stepO; simpa using hol2) ?_ S' hk
    rw [ho, List.take_add_one, er]
    unfold totO
    rw [List.foldl_append]
    rfl
end
theorem bdA1 : pBuild Try.prog 28 #[(0, .int .i64 1)] = some (.agg #[.int .i64 1, .int .i64 0]) := by kernel_rfl
theorem bdA2 (a c : Int) : pBuild Try.prog 28 #[(0, .int .i64 a), (1, .int .i64 c)] = some (.agg #[.int .i64 a, .int .i64 c]) := by kernel_rfl
theorem bsA3 (c : Int) (h : AH) : pBuildSlice Try.prog 29 3 #[(0, .agg #[.int .i64 1, .int .i64 0]), (1, .agg #[.int .i64 3, .int .i64 c]), (2, .agg #[.int .i64 4, .int .i64 c])] h = some (.slice (some ⟨h.n, 0, none⟩) 3 3, h.alloc (.cells [.int .i64 1, .int .i64 0, .int .i64 3, .int .i64 c, .int .i64 4, .int .i64 c] 28 true)) := by kernel_rfl
theorem bsA1 (a c : Int) (h : AH) : pBuildSlice Try.prog 29 1 #[(0, .agg #[.int .i64 a, .int .i64 c])] h = some (.slice (some ⟨h.n, 0, none⟩) 1 1, h.alloc (.cells [.int .i64 a, .int .i64 c] 28 true)) := by kernel_rfl
/-- Aggregates made, as the laws make them. -/
theorem aggs3S {n0 : Nat} {h0 h : AH} {L : List (Nat × AO)} {O : List OS} (S : Stt Try.prog n0 h0 h L O) (c : Nat) :
    Stt Try.prog n0 h0 (h.alloc (.cells [.int .i64 1, .int .i64 0, .int .i64 3, .int .i64 c, .int .i64 4, .int .i64 c] 28 true)) L ((.slice (some ⟨h.n, 0, none⟩) 3 3, 2, (lawA c false).map arow) :: O) := by
  have S1 := S.alloc (.cells ((lawA c false).map arow).flatten 28 true)
  exact S1.absorb (rows := (lawA c false).map arow) (n := 2) (fun r hr => by obtain ⟨x, _, rfl⟩ := List.mem_map.1 hr; rfl) sz28
theorem nilRows (h : AH) : pLen Try.prog #[23] (.slice none 0 0) h = some (.int .i64 0) := by kernel_rfl
theorem f4_aggs {k : Nat} {β : Type} {Q : β → Prop} {h0 h : AH} {x0 x1 x2 lv : Value} {c : Nat} {b : Bool} (S : Stt Try.prog h0.n h0 h [] [(lv, 2, (lawA c false).map arow)]) {kn : Value → Value → Value → Value → Value → Value → AH → Option β}
    (hk : ∀ h' lv' y1 y2, Stt Try.prog h0.n h0 h' [] [(lv', 2, (lawA c b).map arow)] → Tl (kn x0 x1 x2 y1 lv' y2 h') Q) : Tl (F4_rlrrrrr (eInv env k) k x0 x1 x2 (.int .i64 c) lv (.bool b) h kn) Q := by
  simp only [F4_rlrrrrr]
  have bd := bdA2 2 c
  cases b with
  | false =>
    repeat (first | (with_reducible apply Tl.val; focus (simp (disch := omega) only [coreA, Int.reduceBEq, base_Y11] <;> with_reducible rfl)) | (with_reducible first | refine Tl.brT ?_ | refine Tl.brF ?_ | refine Tl.gd_on ?_ | refine Tl.gd3_on ?_) | ((with_reducible first | apply Tl.brC | apply Tl.gdC | apply Tl.gd3C); focus (simp (disch := omega) only [coreA, Int.reduceBEq, base_Y11] <;> with_reducible rfl)))
    exact hk _ _ _ _ S
  | true =>
    repeat (first | (with_reducible apply Tl.val; focus (simp (disch := omega) only [coreA, Int.reduceBEq, base_Y11, bd] <;> with_reducible rfl)) | (with_reducible first | refine Tl.brT ?_ | refine Tl.brF ?_ | refine Tl.gd_on ?_ | refine Tl.gd3_on ?_) | ((with_reducible first | apply Tl.brC | apply Tl.gdC | apply Tl.gd3C); focus (simp (disch := omega) only [coreA, Int.reduceBEq, base_Y11, bd] <;> with_reducible rfl)))
    refine Tl.push S 0 rfl appA (bsA1 2 c _) rfl rfl (by simp [lawA]) fun v' h' S' => ?_
    repeat (first | (with_reducible apply Tl.val; focus (simp (disch := omega) only [coreA, Int.reduceBEq, base_Y11] <;> with_reducible rfl)) | (with_reducible first | refine Tl.brT ?_ | refine Tl.brF ?_ | refine Tl.gd_on ?_ | refine Tl.gd3_on ?_) | ((with_reducible first | apply Tl.brC | apply Tl.gdC | apply Tl.gd3C); focus (simp (disch := omega) only [coreA, Int.reduceBEq, base_Y11] <;> with_reducible rfl)))
    exact hk _ _ _ _ S'
end Go.Proofs.Ytgklcfnjahomjaa.Sh
