/- A region that draws its order: whatever the order, it comes to what the text's order comes to. -/
import Derived.Test.YtpiibdegmimckaaEv11
set_option linter.unusedVariables false
set_option linter.unusedSimpArgs false
namespace Go.Proofs.Ev
open Go Go.RowKit
variable {G : Code → Prop} {P : Program} {w0 : World} {ρ : Ren} {D : List Mk} {h : AH} {w : World}

theorem same0_eq {x y : Value} (hs : same0 x y = true) : x = y := by
  unfold same0 at hs
  split at hs <;> first
    | rfl
    | (cases hs; done)
    | (simp only [Bool.and_eq_true, beq_iff_eq] at hs; simp_all; done)
    | (rw [ba_eq hs])
theorem sameList_eq : ∀ {xs ys : List Value}, sameList xs ys = true → xs = ys := by
  intro xs
  induction xs with
  | nil => intro ys hs; cases ys with | nil => rfl | cons => simp [sameList] at hs
  | cons x xs ih =>
    intro ys hs
    cases ys with
    | nil => simp [sameList] at hs
    | cons y ys =>
      simp only [sameList, Bool.and_eq_true] at hs
      rw [same0_eq hs.1, ih hs.2]
theorem sameV_eq {x y : Value} (hs : sameV x y = true) : x = y := by
  unfold sameV at hs
  split at hs
  · exact congrArg _ (Array.toList_inj.1 (sameList_eq hs))
  · simp only [Bool.and_eq_true, beq_iff_eq] at hs
    rw [hs.1, same0_eq hs.2]
  · simp only [Bool.and_eq_true] at hs
    exact congrArg _ (Array.toList_inj.1 (sameList_eq hs.2))
  · simp only [Bool.and_eq_true, beq_iff_eq] at hs
    rw [hs.1.1, Array.toList_inj.1 (sameList_eq hs.1.2), Array.toList_inj.1 (sameList_eq hs.2)]
  · exact same0_eq hs
theorem sameO_eq {x : Option Value} {y : Value} (hs : sameO x y = true) : x = some y := by
  cases x with
  | none => simp [sameO] at hs
  | some v => rw [sameV_eq hs]

/-! ### What stands ahead of what -/
def looks (ops : Array Oper) (o : Oper) : List Tmp :=
  (o.op.operands.toList.filterMap fun | .tmp t => some t | _ => none) ++
  (match o.guard with
   | some (j, _) => ((ops[j]?).bind (·.dst)).toList
   | none => []) ++ o.dst.toList
def okDraw (P : Program) (ops : Array Oper) : Bool :=
  (List.range ops.size).all fun i => match ops[i]? with
    | none => true
    | some oi => (oi.after.toList.all fun e => !Region.binds .any e || decide (e.on < i)) &&
      (List.range ops.size).all fun j => match ops[j]? with
        | none => true
        | some oj => i == j || ((isLight P oi || isLight P oj || ordered (masks ops) i j || looseAt P ops (masks ops) (min i j)) &&
            (match oi.dst with
             | some d => !(looks ops oj).contains d || ordered (masks ops) i j
             | none => true))
theorem maskOf_bit {acc : Array Nat} {o : Oper} {i : Nat} (hb : (maskOf acc o).testBit i = true) :
    ∃ e ∈ o.after.toList, Region.binds .any e = true ∧ (e.on = i ∨ (acc.getD e.on 0).testBit i = true) := by
  have : ∀ (l : List Edge) (s : Nat), (l.foldl (fun s e => if Region.binds .any e then s ||| 2 ^ e.on ||| acc.getD e.on 0 else s) s).testBit i = true →
      s.testBit i = true ∨ ∃ e ∈ l, Region.binds .any e = true ∧ (e.on = i ∨ (acc.getD e.on 0).testBit i = true) := by
    intro l
    induction l with
    | nil => intro s hs; exact .inl hs
    | cons e l ih =>
      intro s hs
      rcases ih _ hs with h1 | ⟨e', h1, h2⟩
      · by_cases hbd : Region.binds .any e = true
        · dsimp only at h1
          rw [if_pos hbd] at h1
          simp only [Nat.testBit_or, Bool.or_eq_true, Nat.testBit_two_pow, decide_eq_true_eq] at h1
          rcases h1 with (h1 | h1) | h1
          · exact .inl h1
          · exact .inr ⟨e, by simp, hbd, .inl h1⟩
          · exact .inr ⟨e, by simp, hbd, .inr h1⟩
        · dsimp only at h1
          rw [if_neg hbd] at h1
          exact .inl h1
      · exact .inr ⟨e', by simp [h1], h2⟩
  rcases this o.after.toList 0 hb with h1 | h1
  · simp at h1
  · exact h1
theorem masks_go : ∀ (l : List Oper) (acc : Array Nat),
    (∀ x, x < acc.size → (l.foldl (fun acc o => acc.push (maskOf acc o)) acc).getD x 0 = acc.getD x 0) ∧
    (∀ (j : Nat) (o : Oper), l[j]? = some o → ∃ acc' : Array Nat, (l.foldl (fun acc o => acc.push (maskOf acc o)) acc).getD (acc.size + j) 0 = maskOf acc' o ∧
      ∀ x, x < acc.size + j → acc'.getD x 0 = (l.foldl (fun acc o => acc.push (maskOf acc o)) acc).getD x 0) := by
  intro l
  induction l with
  | nil => intro acc; exact ⟨fun _ _ => rfl, fun j o hj => by simp at hj⟩
  | cons o l ih =>
    intro acc
    obtain ⟨h1, h2⟩ := ih (acc.push (maskOf acc o))
    have hold : ∀ x, x < acc.size → (acc.push (maskOf acc o)).getD x 0 = acc.getD x 0 := by
      intro x hx
      simp only [Array.getD_eq_getD_getElem?]
      rw [Array.getElem?_push, if_neg (by omega)]
    refine ⟨fun x hx => ?_, fun j o' hj => ?_⟩
    · simp only [List.foldl_cons]
      rw [h1 x (by simp; omega), hold x hx]
    · simp only [List.foldl_cons]
      cases j with
      | zero =>
        simp at hj
        subst hj
        refine ⟨acc, ?_, fun x hx => ?_⟩
        · rw [h1 _ (by simp)]
          simp
        · rw [h1 x (by simp; omega), hold x (by omega)]
      | succ j =>
        obtain ⟨acc', k1, k2⟩ := h2 j o' (by simpa using hj)
        have e : (acc.push (maskOf acc o)).size + j = acc.size + (j + 1) := by simp; omega
        rw [e] at k1 k2
        exact ⟨acc', k1, k2⟩
theorem masks_bit {ops : Array Oper} {i j : Nat} {o : Oper} (ho : ops[j]? = some o) (hlt : ∀ e ∈ o.after.toList, Region.binds .any e = true → e.on < j) (hb : ((masks ops).getD j 0).testBit i = true) :
    ∃ e ∈ o.after.toList, Region.binds .any e = true ∧ (e.on = i ∨ ((masks ops).getD e.on 0).testBit i = true) := by
  obtain ⟨_, h2⟩ := masks_go ops.toList #[]
  obtain ⟨acc', k1, k2⟩ := h2 j o (by simpa using ho)
  simp only [List.size_toArray, List.length_nil, Nat.zero_add] at k1 k2
  unfold masks at hb ⊢
  rw [k1] at hb
  obtain ⟨e, e1, e2, e3⟩ := maskOf_bit hb
  refine ⟨e, e1, e2, ?_⟩
  rcases e3 with e3 | e3
  · exact .inl e3
  · right; rw [← k2 _ (hlt e e1 e2)]; exact e3
theorem okDraw_edge {ops : Array Oper} (hd : okDraw P ops = true) {i : Nat} {o : Oper} (ho : ops[i]? = some o) : ∀ e ∈ o.after.toList, Region.binds .any e = true → e.on < i := by
  intro e he hb
  have hi : i < ops.size := (Array.getElem?_eq_some_iff.1 ho).1
  have := List.all_eq_true.1 hd i (List.mem_range.2 hi)
  rw [ho] at this
  simp only [Bool.and_eq_true] at this
  have := List.all_eq_true.1 this.1 e he
  simpa [hb] using this
theorem okDraw_pair {ops : Array Oper} (hd : okDraw P ops = true) {i j : Nat} {oi oj : Oper} (hi : ops[i]? = some oi) (hj : ops[j]? = some oj) (hne : i ≠ j) :
    (isLight P oi = false → isLight P oj = false → ordered (masks ops) i j = true ∨ looseAt P ops (masks ops) (min i j) = true) ∧ (∀ d, oi.dst = some d → d ∈ looks ops oj → ordered (masks ops) i j = true) := by
  have hi' : i < ops.size := (Array.getElem?_eq_some_iff.1 hi).1
  have hj' : j < ops.size := (Array.getElem?_eq_some_iff.1 hj).1
  have := List.all_eq_true.1 hd i (List.mem_range.2 hi')
  rw [hi] at this
  simp only [Bool.and_eq_true] at this
  have := List.all_eq_true.1 this.2 j (List.mem_range.2 hj')
  rw [hj] at this
  simp only [Bool.or_eq_true, beq_iff_eq, hne, false_or, Bool.and_eq_true] at this
  refine ⟨fun h1 h2 => by simpa [h1, h2, Nat.min_comm] using this.1, fun d h1 h2 => ?_⟩
  have := this.2
  rw [h1] at this
  simpa [h2] using this
/-- Listed from the front on: whatever stands ahead of a listed one is listed. -/
def Closed (ops : Array Oper) (L : Nat → Prop) : Prop := ∀ (j : Nat) (o : Oper), ops[j]? = some o → L j → ∀ e ∈ o.after.toList, Region.binds .any e = true → L e.on
theorem closed_bit {ops : Array Oper} (hd : okDraw P ops = true) {L : Nat → Prop} (hL : Closed ops L) : ∀ (j : Nat) (o : Oper), ops[j]? = some o → (∀ e ∈ o.after.toList, Region.binds .any e = true → L e.on) →
    ∀ i, ((masks ops).getD j 0).testBit i = true → L i := by
  intro j
  induction j using Nat.strongRecOn with
  | _ j ih =>
    intro o ho hp i hb
    obtain ⟨e, e1, e2, e3⟩ := masks_bit ho (okDraw_edge hd ho) hb
    have hlt := okDraw_edge hd ho e e1 e2
    have hLe := hp e e1 e2
    rcases e3 with rfl | e3
    · exact hLe
    · have hs : e.on < ops.size := by
        have := (Array.getElem?_eq_some_iff.1 ho).1
        omega
      exact ih e.on hlt ops[e.on] (by simp [hs]) (fun e' q1 q2 => hL e.on _ (by simp [hs]) hLe e' q1 q2) i e3
theorem mask_lt {ops : Array Oper} (hd : okDraw P ops = true) {i j : Nat} {o : Oper} (ho : ops[j]? = some o) (hb : ((masks ops).getD j 0).testBit i = true) : i < j := by
  have : ∀ (j : Nat) (o : Oper), ops[j]? = some o → ((masks ops).getD j 0).testBit i = true → i < j := by
    intro j
    induction j using Nat.strongRecOn with
    | _ j ih =>
      intro o ho hb
      obtain ⟨e, e1, e2, e3⟩ := masks_bit ho (okDraw_edge hd ho) hb
      have hlt := okDraw_edge hd ho e e1 e2
      rcases e3 with rfl | e3
      · exact hlt
      · have hs : e.on < ops.size := by
          have := (Array.getElem?_eq_some_iff.1 ho).1
          omega
        have := ih e.on hlt ops[e.on] (by simp [hs]) e3
        omega
  exact this j o ho hb
/-- Of two that are ordered, one not listed yet and ready, the other is listed just if it stands ahead in the text. -/
theorem ordered_listed {ops : Array Oper} (hd : okDraw P ops = true) {L : Nat → Prop} (hL : Closed ops L) {i j : Nat} {oi oj : Oper} (hi : ops[i]? = some oi) (hj : ops[j]? = some oj) (hne : i ≠ j)
    (hni : ¬ L i) (hp : ∀ e ∈ oi.after.toList, Region.binds .any e = true → L e.on) (ho : ordered (masks ops) i j = true ∨ ordered (masks ops) j i = true) : L j ↔ j < i := by
  have hb : ((masks ops).getD i 0).testBit j = true ∨ ((masks ops).getD j 0).testBit i = true := by
    unfold ordered at ho
    simp only [Bool.or_eq_true, beq_iff_eq, hne, Ne.symm hne, false_or] at ho
    rcases ho with (h1 | h1) | (h1 | h1)
    · exact .inl h1
    · exact .inr h1
    · exact .inr h1
    · exact .inl h1
  constructor
  · intro hLj
    rcases hb with h1 | h1
    · exact mask_lt hd hi h1
    · exact absurd (closed_bit hd hL j oj hj (fun e q1 q2 => hL j oj hj hLj e q1 q2) i h1) hni
  · intro hlt
    rcases hb with h1 | h1
    · exact closed_bit hd hL i oi hi hp j h1
    · have := mask_lt hd hj h1; omega

/-! ### The text's run, step by step -/
structure Tr (P : Program) (inv : Inv) (ops : Array Oper) (n : Nat) (a : Act) (h : AH) (a2 : Act) (h2 : AH) (ts : List TR) where
  A : Nat → Act
  H : Nat → AH
  T : Nat → TR
  A0 : A 0 = a
  H0 : H 0 = h
  An : A n = a2
  Hn : H n = h2
  step : ∀ k, k < n → eStep P inv ops k (A k) (H k) = some (T k) ∧ A (k + 1) = (A k).put (T k).o.dst (T k).v ∧ H (k + 1) = (T k).h2
  mem : ∀ k, k < n → ts[k]? = some (T k)
theorem trace_tr {inv : Inv} {ops : Array Oper} : ∀ (m s : Nat) (a : Act) (h : AH) (ts : List TR) (a2 : Act) (h2 : AH), eTrace P inv ops (List.range' s m) a h = some (ts, a2, h2) →
    ∃ (A : Nat → Act) (H : Nat → AH) (T : Nat → TR), A s = a ∧ H s = h ∧ A (s + m) = a2 ∧ H (s + m) = h2 ∧
      (∀ k, s ≤ k → k < s + m → eStep P inv ops k (A k) (H k) = some (T k) ∧ A (k + 1) = (A k).put (T k).o.dst (T k).v ∧ H (k + 1) = (T k).h2) ∧ (∀ k, s ≤ k → k < s + m → ts[k - s]? = some (T k)) := by
  intro m
  induction m with
  | zero =>
    intro s a h ts a2 h2 he
    simp only [List.range'_zero, eTrace, Option.some.injEq, Prod.mk.injEq] at he
    obtain ⟨rfl, rfl, rfl⟩ := he
    exact ⟨fun _ => a, fun _ => h, fun _ => ⟨0, default, a, h, unk, h, false⟩, rfl, rfl, rfl, rfl, fun k h1 h2 => by omega, fun k h1 h2 => by omega⟩
  | succ m ih =>
    intro s a h ts a2 h2 he
    simp only [List.range'_succ, eTrace, putF_eq] at he
    cases hst : eStep P inv ops s a h with
    | none => rw [hst] at he; cases he
    | some t =>
      rw [hst] at he
      simp only at he
      cases hr : eTrace P inv ops (List.range' (s + 1) m) (a.put t.o.dst t.v) t.h2 with
      | none => rw [hr] at he; cases he
      | some x =>
        obtain ⟨ts', a3, h3⟩ := x
        rw [hr] at he
        simp only [Option.some.injEq, Prod.mk.injEq] at he
        obtain ⟨rfl, rfl, rfl⟩ := he
        obtain ⟨A, H, T, k1, k2, k3, k4, k5, k6⟩ := ih (s + 1) _ _ _ _ _ hr
        refine ⟨fun k => if k = s then a else A k, fun k => if k = s then h else H k, fun k => if k = s then t else T k, by simp, by simp, ?_, ?_, fun k q1 q2 => ?_, fun k q1 q2 => ?_⟩
        · dsimp only; rw [if_neg (by omega), show s + (m + 1) = s + 1 + m by omega]; exact k3
        · dsimp only; rw [if_neg (by omega), show s + (m + 1) = s + 1 + m by omega]; exact k4
        · by_cases hk : k = s
          · subst hk
            dsimp only
            rw [if_pos rfl, if_pos rfl, if_pos rfl, if_neg (by omega), if_neg (by omega)]
            exact ⟨hst, k1, k2⟩
          · dsimp only
            rw [if_neg hk, if_neg hk, if_neg hk, if_neg (by omega), if_neg (by omega)]
            exact k5 k (by omega) (by omega)
        · by_cases hk : k = s
          · subst hk; simp
          · simp only [hk, if_false]
            rw [show k - s = (k - (s + 1)) + 1 by omega, List.getElem?_cons_succ]
            exact k6 k (by omega) (by omega)
theorem eTrace_tr {inv : Inv} {ops : Array Oper} {n : Nat} {a a2 : Act} {h h2 : AH} {ts : List TR} (he : eTrace P inv ops (List.range n) a h = some (ts, a2, h2)) : Nonempty (Tr P inv ops n a h a2 h2 ts) := by
  rw [List.range_eq_range'] at he
  obtain ⟨A, H, T, k1, k2, k3, k4, k5, k6⟩ := trace_tr n 0 a h ts a2 h2 he
  simp only [Nat.zero_add, Nat.sub_zero] at k3 k4 k5 k6
  exact ⟨⟨A, H, T, k1, k2, k3, k4, fun k hk => k5 k (Nat.zero_le _) hk, fun k hk => k6 k (Nat.zero_le _) hk⟩⟩
theorem eStep_spec {inv : Inv} {ops : Array Oper} {i : Nat} {a : Act} {h : AH} {t : TR} (hs : eStep P inv ops i a h = some t) :
    ∃ o, ops[i]? = some o ∧ t.i = i ∧ t.o = o ∧ t.a = a ∧ t.h = h ∧
      ((t.did = false ∧ wantedE ops o a.tmps = some false ∧ t.v = skipped ∧ t.h2 = h) ∨ (t.did = true ∧ wantedE ops o a.tmps = some true ∧ eOp P inv o a.eval h = some (t.v, t.h2))) := by
  unfold eStep at hs
  rw [Array.getElem?_toList] at hs
  cases ho : ops[i]? with
  | none => rw [ho] at hs; cases hs
  | some o =>
    rw [ho] at hs
    simp only at hs
    cases hw : wantedE ops o a.tmps with
    | none => rw [hw] at hs; cases hs
    | some b =>
      rw [hw] at hs
      cases b with
      | false => simp only [Option.some.injEq] at hs; subst hs; exact ⟨o, rfl, rfl, rfl, rfl, rfl, .inl ⟨rfl, hw, rfl, rfl⟩⟩
      | true =>
        simp only [evL_eq] at hs
        cases hop : eOp P inv o a.eval h with
        | none => rw [hop] at hs; cases hs
        | some x =>
          obtain ⟨v, h2⟩ := x
          rw [hop] at hs
          simp only [fcV_eq, fcH_eq, Option.some.injEq] at hs
          subst hs
          exact ⟨o, rfl, rfl, rfl, rfl, rfl, .inr ⟨rfl, hw, hop⟩⟩
theorem light_quiet {o : Oper} (hl : isLight P o = true) (hr : readsH o = false) (ev : Operand → Value) (h h' : AH) : eLight P o ev h = eLight P o ev h' := by
  obtain ⟨dst, op, type, pos, after, guard⟩ := o
  cases op <;> first
    | rfl
    | (simp [readsH] at hr; done)
theorem eOp_light {inv : Inv} {o : Oper} {ev : Operand → Value} {h h2 : AH} {v : Value} (hl : isLight P o = true) (he : eOp P inv o ev h = some (v, h2)) : eLight P o ev h = some v ∧ h2 = h := by
  unfold eOp at he
  rw [if_pos hl] at he
  cases hx : eLight P o ev h with
  | none => rw [hx] at he; cases he
  | some x => rw [hx] at he; cases he; exact ⟨rfl, rfl⟩

/-! ### The simulation -/
section draw
variable {inv : Inv} {ops : Array Oper} {n : Nat} {a a2 : Act} {h2 : AH} {ts : List TR} (R : Tr P inv ops n a h a2 h2 ts)

/-- A did-heavy operation. -/
def Tr.dh (R : Tr P inv ops n a h a2 h2 ts) (k : Nat) : Prop := k < n ∧ (R.T k).did = true ∧ isLight P (R.T k).o = false
theorem Tr.spec (R : Tr P inv ops n a h a2 h2 ts) {k : Nat} (hk : k < n) : ∃ o, ops[k]? = some o ∧ (R.T k).i = k ∧ (R.T k).o = o ∧ (R.T k).a = R.A k ∧ (R.T k).h = R.H k ∧
    (((R.T k).did = false ∧ wantedE ops o (R.A k).tmps = some false ∧ (R.T k).v = skipped ∧ (R.T k).h2 = R.H k) ∨
     ((R.T k).did = true ∧ wantedE ops o (R.A k).tmps = some true ∧ eOp P inv o (R.A k).eval (R.H k) = some ((R.T k).v, (R.T k).h2))) := eStep_spec (R.step k hk).1
/-- Between heavy ones memory stays. -/
theorem Tr.const (R : Tr P inv ops n a h a2 h2 ts) : ∀ (m p : Nat), p + m ≤ n → (∀ k, p ≤ k → k < p + m → ¬ R.dh k) → R.H (p + m) = R.H p := by
  intro m
  induction m with
  | zero => intro p _ _; rfl
  | succ m ih =>
    intro p hle hno
    have hk : p + m < n := by omega
    rw [← ih p (by omega) (fun k q1 q2 => hno k q1 (by omega))]
    have := (R.step (p + m) hk).2.2
    rw [show p + (m + 1) = p + m + 1 by omega, this]
    obtain ⟨o, k1, k2, k3, k4, k5, k6⟩ := R.spec hk
    rcases k6 with ⟨_, _, _, k6⟩ | ⟨k7, _, k6⟩
    · exact k6
    · have hnd := hno (p + m) (by omega) (by omega)
      have hl : isLight P o = true := by
        cases hh : isLight P o with
        | true => rfl
        | false => exact absurd ⟨hk, k7, by rw [k3]; exact hh⟩ hnd
      exact (eOp_light hl k6).2
theorem Tr.const' (R : Tr P inv ops n a h a2 h2 ts) {p q : Nat} (hp : p ≤ n) (hq : q ≤ n) (hno : ∀ k, (p ≤ k ∧ k < q) ∨ (q ≤ k ∧ k < p) → ¬ R.dh k) : R.H p = R.H q := by
  rcases Nat.le_total p q with hle | hle
  · have := R.const (q - p) p (by omega) (fun k q1 q2 => hno k (.inl ⟨q1, by omega⟩))
    rw [show p + (q - p) = q by omega] at this
    exact this.symm
  · have := R.const (p - q) q (by omega) (fun k q1 q2 => hno k (.inr ⟨q1, by omega⟩))
    rw [show q + (p - q) = p by omega] at this
    exact this
/-- What a temporary holds, the operations in L having been carried out. -/
def Tr.slot (R : Tr P inv ops n a h a2 h2 ts) (L : Nat → Prop) (t : Tmp) (v : Value) : Prop :=
  (∃ j, j < n ∧ L j ∧ (R.T j).o.dst = some t ∧ (∀ j', j' < n → L j' → (R.T j').o.dst = some t → j' ≤ j) ∧ v = (R.T j).v) ∨
  ((∀ j, j < n → L j → (R.T j).o.dst ≠ some t) ∧ v = a.tmps.getD t unk)
theorem Tr.size (R : Tr P inv ops n a h a2 h2 ts) : ∀ k, k ≤ n → (R.A k).tmps.size = a.tmps.size := by
  intro k
  induction k with
  | zero => intro _; rw [R.A0]
  | succ k ih =>
    intro hk
    rw [(R.step k (by omega)).2.1]
    cases (R.T k).o.dst with
    | none => exact ih (by omega)
    | some d => simp [Act.put]; exact ih (by omega)
theorem Tr.slotA (R : Tr P inv ops n a h a2 h2 ts) (t : Tmp) (ht : t < a.tmps.size) : ∀ k, k ≤ n → R.slot (fun j => j < k) t ((R.A k).tmps.getD t unk) := by
  intro k
  induction k with
  | zero => intro _; right; rw [R.A0]; exact ⟨fun j _ hj => by omega, rfl⟩
  | succ k ih =>
    intro hk
    have hA := (R.step k (by omega)).2.1
    have hs := R.size k (by omega)
    by_cases hd : (R.T k).o.dst = some t
    · left
      refine ⟨k, by omega, by omega, hd, fun j' q1 q2 q3 => by omega, ?_⟩
      rw [hA, hd]
      simp [Act.put, hs, ht]
    · have hget : (R.A (k + 1)).tmps.getD t unk = (R.A k).tmps.getD t unk := by
        rw [hA]
        cases hdd : (R.T k).o.dst with
        | none => rfl
        | some d =>
          have : d ≠ t := fun e => hd (by rw [hdd, e])
          simp [Act.put, Array.getElem?_setIfInBounds_ne this]
      rw [hget]
      rcases ih (by omega) with ⟨j, q1, q2, q3, q4, q5⟩ | ⟨q1, q2⟩
      · left
        refine ⟨j, q1, by omega, q3, fun j' z1 z2 z3 => ?_, q5⟩
        by_cases hjk : j' = k
        · subst hjk; exact absurd z3 hd
        · exact q4 j' z1 (by omega) z3
      · right
        refine ⟨fun j z1 z2 z3 => ?_, q2⟩
        by_cases hjk : j = k
        · subst hjk; exact hd z3
        · exact q1 j z1 (by omega) z3
/-- The same writers, the same value. -/
theorem Tr.slot_eq (R : Tr P inv ops n a h a2 h2 ts) {L L' : Nat → Prop} {t : Tmp} {v v' : Value} (hs : R.slot L t v) (hs' : R.slot L' t v') (hL : ∀ j, j < n → (R.T j).o.dst = some t → (L j ↔ L' j)) : v = v' := by
  rcases hs with ⟨j, q1, q2, q3, q4, q5⟩ | ⟨q1, q2⟩
  · rcases hs' with ⟨k, z1, z2, z3, z4, z5⟩ | ⟨z1, z2⟩
    · have h1 := q4 k z1 ((hL k z1 z3).2 z2) z3
      have h2 := z4 j q1 ((hL j q1 q3).1 q2) q3
      have : j = k := by omega
      subst this
      rw [q5, z5]
    · exact absurd q3 (z1 j q1 ((hL j q1 q3).1 q2))
  · rcases hs' with ⟨k, z1, z2, z3, z4, z5⟩ | ⟨z1, z2⟩
    · exact absurd z3 (q1 k z1 ((hL k z1 z3).2 z2))
    · rw [q2, z2]
/-- The mark of a new row that the world has not yet. -/
def Tr.mark (R : Tr P inv ops n a h a2 h2 ts) (j : Nat) : Mk := .late (R.H j).n (((R.H (j + 1)).get (R.H j).n).getD .dead)
/-- Where the simulation stands: what is listed, how far the heavy ones have come, which new rows the world has not yet. -/
structure At (G : Code → Prop) (P : Program) (w0 : World) (D : List Mk) (inv : Inv) (ops : Array Oper) (n : Nat) (a : Act) (h : AH) (a2 : Act) (h2 : AH) (ts : List TR) (R : Tr P inv ops n a h a2 h2 ts)
    (ρ : Ren) (L : Nat → Prop) (p : Nat) (X : List Nat) (c : Act) (w : World) : Prop where
  closed : Closed ops L
  le : p ≤ n
  heavy : ∀ j, R.dh j → (L j → j < p) ∧ (j < p → L j ∨ looseAt P ops (masks ops) j = true)
  pend : ∀ j, j ∈ X ↔ R.dh j ∧ j < p ∧ ¬ L j
  sim : Sim G P w0 ρ (X.map R.mark ++ D) (R.H p) w
  size : c.tmps.size = a.tmps.size
  tmps : ∀ t, t < a.tmps.size → ∃ v, R.slot L t v ∧ VR ρ v (c.tmps.getD t unk)
theorem getD_none {a : Array Value} {t : Nat} (ht : ¬ t < a.size) : a.getD t unk = unk := by
  simp [Array.getElem?_eq_none (Nat.le_of_not_lt ht)]
variable {R}
/-- Carried out, an operation's value goes to its temporary. -/
theorem slot_put {L : Nat → Prop} {i : Nat} (hi : i < n) (hni : ¬ L i) {c : Act} {ρ ρ' : Ren} (hρ : ρ.le ρ') (hsz : c.tmps.size = a.tmps.size) (ht : ∀ t, t < a.tmps.size → ∃ v, R.slot L t v ∧ VR ρ v (c.tmps.getD t unk))
    (hord : ∀ j, j < n → L j → ∀ d, (R.T j).o.dst = some d → (R.T i).o.dst = some d → j < i) {v' : Value} (hv : VR ρ' (R.T i).v v') :
    ∀ t, t < a.tmps.size → ∃ v, R.slot (fun j => L j ∨ j = i) t v ∧ VR ρ' v ((c.put (R.T i).o.dst v').tmps.getD t unk) := by
  intro t htlt
  by_cases hd : (R.T i).o.dst = some t
  · refine ⟨(R.T i).v, .inl ⟨i, hi, .inr rfl, hd, fun j' q1 q2 q3 => ?_, rfl⟩, ?_⟩
    · rcases q2 with q2 | rfl
      · exact Nat.le_of_lt (hord j' q1 q2 t q3 hd)
      · exact Nat.le_refl _
    · rw [hd]
      simp [Act.put, hsz, htlt]
      exact hv
  · obtain ⟨v, q1, q2⟩ := ht t htlt
    refine ⟨v, ?_, ?_⟩
    · rcases q1 with ⟨j, z1, z2, z3, z4, z5⟩ | ⟨z1, z2⟩
      · refine .inl ⟨j, z1, .inl z2, z3, fun j' y1 y2 y3 => ?_, z5⟩
        rcases y2 with y2 | rfl
        · exact z4 j' y1 y2 y3
        · exact absurd y3 hd
      · refine .inr ⟨fun j y1 y2 => ?_, z2⟩
        rcases y2 with y2 | rfl
        · exact z1 j y1 y2
        · exact hd
    · have : (c.put (R.T i).o.dst v').tmps.getD t unk = c.tmps.getD t unk := by
        cases hdd : (R.T i).o.dst with
        | none => rfl
        | some d =>
          have : d ≠ t := fun e => hd (by rw [hdd, e])
          simp [Act.put, Array.getElem?_setIfInBounds_ne this]
      rw [this]
      exact q2.mono hρ
end draw
end Go.Proofs.Ev
