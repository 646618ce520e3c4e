/- Aggregates of groups are together those of all rows: no program in sight. -/
import Derived.Test.YtgklcfnjahomjaaSzY3
set_option linter.unusedVariables false
set_option linter.unusedSimpArgs false
set_option maxRecDepth 100000
namespace Go.Proofs.Ytgklcfnjahomjaa.Sh
open Go Go.RowKit Go.Proofs.Ev
theorem wrM (z : Int) : (IntKind.i64.wrap z) % 18446744073709551616 = z % 18446744073709551616 := by
  rw [wrap_i64']
  split <;> omega
theorem wrC {a b : Int} (h : a % 18446744073709551616 = b % 18446744073709551616) : IntKind.i64.wrap a = IntKind.i64.wrap b := by
  rw [wrap_i64', wrap_i64', h]
theorem wrL (a b : Int) : IntKind.i64.wrap (IntKind.i64.wrap a + b) = IntKind.i64.wrap (a + b) := wrC (by have := wrM a; omega)
theorem wrR (a b : Int) : IntKind.i64.wrap (a + IntKind.i64.wrap b) = IntKind.i64.wrap (a + b) := wrC (by have := wrM b; omega)
/-- What groups tell, as a law goes through it. -/
def telOut (t : Tel) (o : CellD) : CellD := match t with
  | .cnt n => ⟨1, IntKind.i64.wrap (o.i + n), o.s⟩
  | .sum _ v => sumPut o v
  | .most _ s v => mostPut s o v
/-- A row more. -/
def outAdd (a : AggD) (row : List CellD) (o : CellD) : CellD := match telNew a with
  | .cnt _ => ⟨1, IntKind.i64.wrap (o.i + 1), o.s⟩
  | .sum c _ => sumPut o (atC row c)
  | .most c s _ => mostPut s o (atC row c)
/-- Made of this aggregate. -/
def Shp (a : AggD) (t : Tel) : Prop := match telNew a, t with
  | .cnt _, .cnt _ => True
  | .sum c _, .sum c' v => c = c' ∧ (v.k = 0 → v = cellZ) ∧ (v.k = 0 ∨ v.k = 1)
  | .most c s _, .most c' s' _ => c = c' ∧ s = s' ∧ (s = 1 ∨ s = -1)
  | _, _ => False
theorem telNew_cases (a : AggD) : telNew a = .cnt 0 ∨ telNew a = .sum a.c.toNat cellZ ∨ telNew a = .most a.c.toNat (-1) cellZ ∨ telNew a = .most a.c.toNat 1 cellZ := by
  unfold telNew
  split
  · exact .inl rfl
  · split
    · exact .inr (.inl rfl)
    · split
      · exact .inr (.inr (.inl rfl))
      · exact .inr (.inr (.inr rfl))
theorem shp_new (a : AggD) : Shp a (telNew a) := by
  unfold Shp
  rcases telNew_cases a with h | h | h | h <;> rw [h] <;> simp [cellZ]
/-- A row's cell may be summed up. -/
def rowA (a : AggD) (row : List CellD) : Prop := a.k = 2 → (atC row a.c.toNat).k = 0 ∨ (atC row a.c.toNat).k = 1
theorem telNew_sum {a : AggD} {c : Nat} {v : CellD} (h : telNew a = .sum c v) : a.k = 2 ∧ c = a.c.toNat := by
  unfold telNew at h
  split at h
  · cases h
  · split at h
    · cases h; exact ⟨by assumption, rfl⟩
    · split at h <;> cases h
theorem shp_add {a : AggD} {t : Tel} (h : Shp a t) {row : List CellD} (hr : rowA a row) : Shp a (telAdd row t) := by
  unfold Shp at *
  rcases telNew_cases a with e | e | e | e
  · rw [e] at h ⊢; cases t <;> simp only [telAdd] at * 
  · have hk := telNew_sum e
    rw [e] at h ⊢; cases t <;> simp only [telAdd] at *
    obtain ⟨h1, h2, h3⟩ := h
    subst h1
    refine ⟨rfl, ?_, ?_⟩
    · unfold sumPut
      split
      · exact h2
      · intro q; simp only at q; contradiction
    · unfold sumPut
      split
      · exact h3
      · exact hr hk.1
  · rw [e] at h ⊢; cases t <;> simp only [telAdd] at * <;> exact h
  · rw [e] at h ⊢; cases t <;> simp only [telAdd] at * <;> exact h
theorem most_rc {s : Int} (hs : s = 1 ∨ s = -1) (o a b : CellD) : mostPut s (mostPut s o a) b = mostPut s (mostPut s o b) a := by
  by_cases ea : a.k = 0
  · have h1 : ∀ z, mostPut s z a = z := fun z => by rw [mostPut, if_neg (fun h => h.1 ea)]
    rw [h1, h1]
  by_cases eb : b.k = 0
  · have h1 : ∀ z, mostPut s z b = z := fun z => by rw [mostPut, if_neg (fun h => h.1 eb)]
    rw [h1, h1]
  have ab := CellD.cmp_anti a b
  have ao := CellD.cmp_anti a o
  have bo := CellD.cmp_anti b o
  have rab := CellD.cmp_range a b
  have rao := CellD.cmp_range a o
  have rbo := CellD.cmp_range b o
  have zab : b.cmp a = 0 → b = a := (CellD.cmp_zero b a).1
  have t1 := @CellD.cmp_trans a b o
  have t2 := @CellD.cmp_trans a o b
  have t3 := @CellD.cmp_trans b a o
  have t4 := @CellD.cmp_trans b o a
  have t5 := @CellD.cmp_trans o a b
  have t6 := @CellD.cmp_trans o b a
  have zao : a.cmp o = 0 → a = o := (CellD.cmp_zero a o).1
  have zbo : b.cmp o = 0 → b = o := (CellD.cmp_zero b o).1
  have pa : mostPut s o a = if o.k = 0 ∨ s * a.cmp o > 0 then a else o := by unfold mostPut; simp only [ea, ne_eq, not_false_eq_true, true_and]
  have pb : mostPut s o b = if o.k = 0 ∨ s * b.cmp o > 0 then b else o := by unfold mostPut; simp only [eb, ne_eq, not_false_eq_true, true_and]
  have qab : mostPut s a b = if s * b.cmp a > 0 then b else a := by unfold mostPut; simp only [ea, eb, ne_eq, not_false_eq_true, true_and, false_or]
  have qba : mostPut s b a = if s * a.cmp b > 0 then a else b := by unfold mostPut; simp only [ea, eb, ne_eq, not_false_eq_true, true_and, false_or]
  rw [pa, pb]
  by_cases c1 : o.k = 0 ∨ s * a.cmp o > 0 <;> by_cases c2 : o.k = 0 ∨ s * b.cmp o > 0
  · rw [if_pos c1, if_pos c2, qab, qba]
    by_cases z : b.cmp a = 0
    · rw [zab z]
    · rcases hs with rfl | rfl
      · by_cases d : b.cmp a > 0
        · rw [if_pos (by omega), if_neg (by omega)]
        · rw [if_neg (by omega), if_pos (by omega)]
      · by_cases d : b.cmp a > 0
        · rw [if_neg (by omega), if_pos (by omega)]
        · rw [if_pos (by omega), if_neg (by omega)]
  · rw [if_pos c1, if_neg c2, qab, pa, if_pos c1]
    have ko : ¬ o.k = 0 := fun h => c2 (.inl h)
    have c1' := c1.resolve_left ko
    have c2' : ¬ s * b.cmp o > 0 := fun h => c2 (.inr h)
    rcases hs with rfl | rfl
    · rw [if_neg]; intro d
      have := t2 (by omega) (by omega)
      omega
    · rw [if_neg]; intro d
      have := t1 (by omega)
      omega
  · rw [if_neg c1, if_pos c2, qba, pb, if_pos c2]
    have ko : ¬ o.k = 0 := fun h => c1 (.inl h)
    have c2' := c2.resolve_left ko
    have c1' : ¬ s * a.cmp o > 0 := fun h => c1 (.inr h)
    rcases hs with rfl | rfl
    · rw [if_neg]; intro d
      have := t4 (by omega) (by omega)
      omega
    · rw [if_neg]; intro d
      have := t3 (by omega)
      omega
  · rw [if_neg c1, if_neg c2, pa, pb, if_neg c1, if_neg c2]
theorem most_as {s : Int} (hs : s = 1 ∨ s = -1) (o v x : CellD) : mostPut s o (mostPut s v x) = mostPut s (mostPut s o v) x := by
  by_cases ex : x.k = 0
  · have h1 : ∀ z, mostPut s z x = z := fun z => by rw [mostPut, if_neg (fun h => h.1 ex)]
    rw [h1, h1]
  by_cases ev : v.k = 0
  · have h1 : ∀ z, mostPut s z v = z := fun z => by rw [mostPut, if_neg (fun h => h.1 ev)]
    have h2 : mostPut s v x = x := by rw [mostPut, if_pos ⟨ex, .inl ev⟩]
    rw [h1, h2]
  have h2 : mostPut s v x = if s * x.cmp v > 0 then x else v := by unfold mostPut; simp only [ev, ex, ne_eq, not_false_eq_true, true_and, false_or]
  have zxv : x.cmp v = 0 → x = v := (CellD.cmp_zero x v).1
  have xv := CellD.cmp_anti x v
  by_cases eo : o.k = 0
  · have h1 : mostPut s o v = v := by rw [mostPut, if_pos ⟨ev, .inl eo⟩]
    rw [h1, h2]
    split
    · rw [mostPut, if_pos ⟨ex, .inl eo⟩]
    · exact h1
  have pv : mostPut s o v = if s * v.cmp o > 0 then v else o := by unfold mostPut; simp only [ev, eo, ne_eq, not_false_eq_true, true_and, false_or]
  have px : mostPut s o x = if s * x.cmp o > 0 then x else o := by unfold mostPut; simp only [ex, eo, ne_eq, not_false_eq_true, true_and, false_or]
  have t1 := @CellD.cmp_trans x v o
  have t2 := @CellD.cmp_trans o v x
  have t3 := @CellD.cmp_trans v o x
  have t4 := @CellD.cmp_trans x o v
  have xo := CellD.cmp_anti x o
  have vo := CellD.cmp_anti v o
  have ov := CellD.cmp_anti o v
  have ox := CellD.cmp_anti o x
  have rxv := CellD.cmp_range x v
  have rvo := CellD.cmp_range v o
  have rxo := CellD.cmp_range x o
  rw [h2, pv]
  by_cases c1 : s * x.cmp v > 0
  · rw [if_pos c1]
    by_cases c2 : s * v.cmp o > 0
    · rw [if_pos c2, h2, if_pos c1, px, if_pos]
      rcases hs with rfl | rfl
      · apply Int.not_le.1; intro d
        have := t4 (by omega) 
        have := @CellD.cmp_trans x o v (by omega) (by omega)
        omega
      · apply Int.not_le.1; intro d
        have := @CellD.cmp_trans v o x (by omega) (by omega)
        omega
    · rw [if_neg c2]
  · rw [if_neg c1, pv]
    by_cases c2 : s * v.cmp o > 0
    · rw [if_pos c2, h2, if_neg c1]
    · rw [if_neg c2, px, if_neg]
      intro d
      rcases hs with rfl | rfl
      · have := t1 (by omega) (by omega); omega
      · have := t2 (by omega) (by omega); omega
theorem sum_as (o v x : CellD) (h : v.k = 0 → v = cellZ) : sumPut o (sumPut v x) = sumPut (sumPut o v) x := by
  unfold sumPut
  by_cases ex : x.k = 0
  · simp [ex]
  · by_cases ev : v.k = 0
    · have := h ev
      subst this
      simp [ex, cellZ, wrR]
    · simp only [ex, ev, if_false]
      congr 1
      rw [wrL, wrR, Int.add_assoc]
theorem sum_rc (o a b : CellD) (h : a.k = 0 ∨ b.k = 0 ∨ a.k = b.k) : sumPut (sumPut o a) b = sumPut (sumPut o b) a := by
  unfold sumPut
  by_cases ea : a.k = 0
  · simp [ea]
  · by_cases eb : b.k = 0
    · simp [eb]
    · have := h.resolve_left ea |>.resolve_left eb
      simp only [eb, if_false, this]
      congr 1
      rw [wrL, wrL]
      congr 1
      omega
theorem out_add {a : AggD} {t : Tel} (h : Shp a t) (row : List CellD) (o : CellD) : telOut (telAdd row t) o = outAdd a row (telOut t o) := by
  unfold Shp at h
  unfold outAdd
  rcases telNew_cases a with e | e | e | e <;> rw [e] at h ⊢ <;> cases t <;> simp only [telAdd, telOut] at *
  · congr 1; rw [wrL, wrR]; congr 1; omega
  · obtain ⟨rfl, h2, _⟩ := h
    exact sum_as _ _ _ h2
  · obtain ⟨rfl, rfl, h2⟩ := h
    exact most_as (.inr rfl) _ _ _
  · obtain ⟨rfl, rfl, h2⟩ := h
    exact most_as (.inl rfl) _ _ _
theorem out_new (a : AggD) (row : List CellD) (o : CellD) : telOut (telAdd row (telNew a)) o = outAdd a row o := by
  rw [out_add (shp_new a)]
  unfold outAdd
  rcases telNew_cases a with e | e | e | e <;> rw [e] <;> simp only [telOut]
  · rw [Int.add_zero, wrL]
  · congr 1
  · congr 1
  · congr 1
theorem out_comm {a : AggD} {t : Tel} (h : Shp a t) {row : List CellD} (hr : rowA a row) (o : CellD) : telOut t (outAdd a row o) = outAdd a row (telOut t o) := by
  unfold Shp at h
  unfold outAdd
  rcases telNew_cases a with e | e | e | e
  · rw [e] at h ⊢; cases t <;> simp only [telOut] at *
    congr 1; rw [wrL, wrL]; congr 1; omega
  · have hk := telNew_sum e
    rw [e] at h ⊢; cases t <;> simp only [telOut] at *
    refine sum_rc _ _ _ ?_
    rcases hr hk.1 with q | q
    · exact .inl q
    · rcases h.2.2 with q2 | q2
      · exact .inr (.inl q2)
      · exact .inr (.inr (q.trans q2.symm))
  · rw [e] at h ⊢; cases t <;> simp only [telOut] at *
    obtain ⟨rfl, rfl, h2⟩ := h
    exact most_rc (.inr rfl) _ _ _
  · rw [e] at h ⊢; cases t <;> simp only [telOut] at *
    obtain ⟨rfl, rfl, h2⟩ := h
    exact most_rc (.inl rfl) _ _ _
theorem out_rc {a : AggD} {t u : Tel} (h : Shp a t) (h2 : Shp a u) (o : CellD) : telOut u (telOut t o) = telOut t (telOut u o) := by
  unfold Shp at h h2
  rcases telNew_cases a with e | e | e | e <;> rw [e] at h h2 <;> cases t <;> cases u <;> simp only [telOut] at *
  · congr 1; rw [wrL, wrL]; congr 1; omega
  · refine sum_rc _ _ _ ?_
    rcases h.2.2 with q | q
    · exact .inl q
    · rcases h2.2.2 with q2 | q2
      · exact .inr (.inl q2)
      · exact .inr (.inr (q.trans q2.symm))
  · obtain ⟨rfl, rfl, h3⟩ := h
    obtain ⟨-, rfl, -⟩ := h2
    exact most_rc (.inr rfl) _ _ _
  · obtain ⟨rfl, rfl, h3⟩ := h
    obtain ⟨-, rfl, -⟩ := h2
    exact most_rc (.inl rfl) _ _ _
theorem told_add {a : AggD} {t : Tel} (h : Shp a t) (row : List CellD) (hs : a.k = 1 → ∃ n, t = .cnt n) : telTold (telAdd row t) = outAdd a row (telTold t) := by
  unfold Shp at h
  unfold outAdd
  rcases telNew_cases a with e | e | e | e <;> rw [e] at h ⊢ <;> cases t <;> simp only [telAdd, telTold] at *
  · obtain ⟨rfl, -⟩ := h; rfl
  · obtain ⟨rfl, rfl, -⟩ := h; rfl
  · obtain ⟨rfl, rfl, -⟩ := h; rfl
/-! ### Groups -/
abbrev GD := List CellD × List Tel
def addG (aggs : List AggD) (key row : List CellD) : List GD → List GD
  | [] => [(key, (aggs.map telNew).map (telAdd row))]
  | x :: gs => if keyS x.1 = keyS key then (x.1, x.2.map (telAdd row)) :: gs else x :: addG aggs key row gs
def newG (aggs : List AggD) (by_ : List Int) : List GD := if by_ = [] then [([], aggs.map telNew)] else []
def accG (aggs : List AggD) (by_ : List Int) (rows : List (List CellD)) : List GD := rows.foldl (fun gs row => addG aggs (pickL row by_) row gs) (newG aggs by_)
def GShp (a : AggD) (j : Nat) (gs : List GD) : Prop := ∀ x ∈ gs, ∃ t, x.2[j]? = some t ∧ Shp a t
def outG1 (j : Nat) (o : CellD) (x : GD) : CellD := match x.2[j]? with
  | some t => telOut t o
  | none => o
def outG (j : Nat) (o : CellD) (gs : List GD) : CellD := gs.foldl (outG1 j) o
theorem addG_shp {aggs : List AggD} {a : AggD} {j : Nat} (ha : aggs[j]? = some a) {key row : List CellD} (hr : rowA a row) : ∀ {gs : List GD}, GShp a j gs → GShp a j (addG aggs key row gs)
  | [], _ => fun x hx => by
    simp only [addG, List.mem_singleton] at hx
    subst hx
    exact ⟨telAdd row (telNew a), by simp [ha], shp_add (shp_new a) hr⟩
  | y :: gs, h => fun x hx => by
    simp only [addG] at hx
    split at hx
    · rcases List.mem_cons.1 hx with rfl | hx
      · obtain ⟨t, h1, h2⟩ := h y (List.mem_cons_self ..)
        exact ⟨telAdd row t, by simp [h1], shp_add h2 hr⟩
      · exact h x (List.mem_cons_of_mem _ hx)
    · rcases List.mem_cons.1 hx with rfl | hx
      · exact h x (List.mem_cons_self ..)
      · exact addG_shp ha hr (fun z hz => h z (List.mem_cons_of_mem _ hz)) x hx
theorem outG_comm {a : AggD} {j : Nat} {row : List CellD} (hr : rowA a row) : ∀ {gs : List GD} (o : CellD), GShp a j gs → outG j (outAdd a row o) gs = outAdd a row (outG j o gs)
  | [], _, _ => rfl
  | y :: gs, o, h => by
    obtain ⟨t, h1, h2⟩ := h y (List.mem_cons_self ..)
    show outG j (outG1 j (outAdd a row o) y) gs = outAdd a row (outG j (outG1 j o y) gs)
    have e : ∀ o, outG1 j o y = telOut t o := fun o => by unfold outG1; rw [h1]
    rw [e, e, out_comm h2 hr]
    exact outG_comm hr _ fun z hz => h z (List.mem_cons_of_mem _ hz)
theorem outG_add {aggs : List AggD} {a : AggD} {j : Nat} (ha : aggs[j]? = some a) {key row : List CellD} (hr : rowA a row) : ∀ {gs : List GD} (o : CellD), GShp a j gs → outG j o (addG aggs key row gs) = outAdd a row (outG j o gs)
  | [], o, _ => by
    show outG1 j o (key, (aggs.map telNew).map (telAdd row)) = outAdd a row o
    unfold outG1
    have : ((aggs.map telNew).map (telAdd row))[j]? = some (telAdd row (telNew a)) := by simp [ha]
    rw [this]
    exact out_new a row o
  | y :: gs, o, h => by
    obtain ⟨t, h1, h2⟩ := h y (List.mem_cons_self ..)
    have h' : GShp a j gs := fun z hz => h z (List.mem_cons_of_mem _ hz)
    have e : ∀ o, outG1 j o y = telOut t o := fun o => by unfold outG1; rw [h1]
    simp only [addG]
    split
    · show outG j (outG1 j o (y.1, y.2.map (telAdd row))) gs = outAdd a row (outG j (outG1 j o y) gs)
      have e2 : outG1 j o (y.1, y.2.map (telAdd row)) = telOut (telAdd row t) o := by
        unfold outG1
        have : (y.2.map (telAdd row))[j]? = some (telAdd row t) := by simp [h1]
        rw [this]
      rw [e, e2, out_add h2]
      exact outG_comm hr _ h'
    · show outG j (outG1 j o y) (addG aggs key row gs) = outAdd a row (outG j (outG1 j o y) gs)
      exact outG_add ha hr _ h'
theorem newG_shp {aggs : List AggD} {a : AggD} {j : Nat} (ha : aggs[j]? = some a) (by_ : List Int) : GShp a j (newG aggs by_) := fun x hx => by
  unfold newG at hx
  split at hx
  · simp only [List.mem_singleton] at hx
    subst hx
    exact ⟨telNew a, by simp [ha], shp_new a⟩
  · cases hx
theorem accG_out {aggs : List AggD} {a : AggD} {j : Nat} (ha : aggs[j]? = some a) (by_ : List Int) : ∀ (rows : List (List CellD)) (gs : List GD), (∀ r ∈ rows, rowA a r) → GShp a j gs →
    GShp a j (rows.foldl (fun gs row => addG aggs (pickL row by_) row gs) gs) ∧
    outG j (telTold (telNew a)) (rows.foldl (fun gs row => addG aggs (pickL row by_) row gs) gs) = rows.foldl (fun o row => outAdd a row o) (outG j (telTold (telNew a)) gs)
  | [], gs, _, h => ⟨h, rfl⟩
  | r :: rows, gs, hr, h => by
    have h1 := hr r (List.mem_cons_self ..)
    have := accG_out ha by_ rows (addG aggs (pickL r by_) r gs) (fun x hx => hr x (List.mem_cons_of_mem _ hx)) (addG_shp ha h1 h)
    refine ⟨this.1, ?_⟩
    have h2 := this.2
    rw [outG_add ha h1 _ h] at h2
    exact h2
theorem newG_out {aggs : List AggD} {a : AggD} {j : Nat} (ha : aggs[j]? = some a) (by_ : List Int) : outG j (telTold (telNew a)) (newG aggs by_) = telTold (telNew a) := by
  unfold newG
  split
  · show outG1 j _ ([], aggs.map telNew) = _
    unfold outG1
    have : (aggs.map telNew)[j]? = some (telNew a) := by simp [ha]
    rw [this]
    rcases telNew_cases a with e | e | e | e <;> rw [e] <;> rfl
  · rfl
theorem shp_cnt {a : AggD} {t : Tel} (h : Shp a t) (hk : a.k = 1) : ∃ n, t = .cnt n := by
  have : telNew a = .cnt 0 := by unfold telNew; rw [if_pos hk]
  unfold Shp at h
  rw [this] at h
  cases t with
  | cnt n => exact ⟨n, rfl⟩
  | sum c v => exact h.elim
  | most c s v => exact h.elim
/-- All rows in one group. -/
theorem accG_all {aggs : List AggD} : ∀ (rows : List (List CellD)) (ts : List Tel), ts.length = aggs.length → ∃ ts' : List Tel, rows.foldl (fun gs row => addG aggs (pickL row []) row gs) [([], ts)] = [([], ts')] ∧ ts'.length = aggs.length ∧
    ∀ (j : Nat) (a : AggD) (t : Tel), aggs[j]? = some a → ts[j]? = some t → Shp a t → (∀ r ∈ rows, rowA a r) → (ts'.map telTold)[j]? = some (rows.foldl (fun o row => outAdd a row o) (telTold t))
  | [], ts, hl => ⟨ts, rfl, hl, fun j a t ha ht _ _ => by simp [ht]⟩
  | r :: rows, ts, hl => by
    obtain ⟨ts', e1, e2, e3⟩ := accG_all rows (ts.map (telAdd r)) (by simpa using hl)
    have e0 : addG aggs (pickL r []) r [([], ts)] = [([], ts.map (telAdd r))] := by
      unfold addG
      exact if_pos (show keyS [] = keyS (pickL r []) from rfl)
    refine ⟨ts', by rw [List.foldl_cons, e0]; exact e1, e2, fun j a t ha ht hs hr => ?_⟩
    have h1 := hr r (List.mem_cons_self ..)
    rw [e3 j a (telAdd r t) ha (by simp [ht]) (shp_add hs h1) fun x hx => hr x (List.mem_cons_of_mem _ hx), List.foldl_cons, told_add hs r (shp_cnt hs)]
end Go.Proofs.Ytgklcfnjahomjaa.Sh
