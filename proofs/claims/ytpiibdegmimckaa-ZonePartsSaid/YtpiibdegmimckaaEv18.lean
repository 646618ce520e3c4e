/- The evaluator once more, in the style of continuations and without forcing: what a shallow function is compared with. -/
import Derived.Test.YtpiibdegmimckaaEv17
set_option linter.unusedVariables false
set_option linter.unusedSimpArgs false
namespace Go.Proofs.Ev
open Go Go.RowKit
variable {β : Type}

/-- What comes behind, if something came. -/
def bnd {α : Type} (x : Option α) (f : α → Option β) : Option β := match x with
  | some a => f a
  | none => none
@[congr] theorem bnd_congr {α : Type} {x y : Option α} {f : α → Option β} (h : x = y) : bnd x f = bnd y f := by rw [h]
@[simp] theorem bnd_some {α : Type} (a : α) (f : α → Option β) : bnd (some a) f = f a := rfl
@[simp] theorem bnd_none {α : Type} (f : α → Option β) : bnd none f = none := rfl
theorem bnd_bnd {α γ : Type} (x : Option α) (f : α → Option γ) (g : γ → Option β) : bnd (bnd x f) g = bnd x fun a => bnd (f a) g := by cases x <;> rfl

/-- Whether a guarded operation is to be done, by the slot that its guard reads. -/
def wantV (x : Option Value) (want : Bool) : Option Bool := match x with
  | some (.bool b) => some (b == want)
  | some (.tuple vs) => match vs.toList with
    | [.tuple us] => if us.size = 0 then some false else none
    | _ => none
  | _ => none
def gd (x : Option Value) (want : Bool) (h : AH) (s : Option (Value × AH)) : Option (Value × AH) := match wantV x want with
  | some true => s
  | some false => some (skipped, h)
  | none => none
def slotOf (ops : Array Oper) (tmps : Array Value) (j : Nat) : Option Value := ((ops.toList[j]?).bind (·.dst)).bind (tmps.toList[·]?)
def kOps (P : Program) (inv : Inv) (ops : Array Oper) : List Nat → Act → AH → (Act → AH → Option β) → Option β
  | [], a, h, K => K a h
  | i :: is, a, h, K => match ops.toList[i]? with
    | none => none
    | some o => match o.guard with
      | none => if isLight P o then bnd (eLight P o (evL a) h) fun v => kOps P inv ops is (a.put o.dst v) h K
        else bnd (eHeavy P inv o (evL a) h) fun p => kOps P inv ops is (a.put o.dst p.1) p.2 K
      | some (j, want) => bnd (gd (slotOf ops a.tmps j) want h (eOp P inv o (evL a) h)) fun p => kOps P inv ops is (a.put o.dst p.1) p.2 K
theorem kOps_eq (P : Program) (inv : Inv) (ops : Array Oper) (is : List Nat) (a : Act) (h : AH) (K : Act → AH → Option β) :
    bnd (eOps P inv ops is a h) (fun r => K r.1 r.2) = kOps P inv ops is a h K := by
  induction is generalizing a h with
  | nil => rfl
  | cons i is ih =>
    simp only [eOps, kOps, eStep]
    cases ho : ops.toList[i]? with
    | none => rfl
    | some o =>
      simp only
      cases hg : o.guard with
      | none =>
        have hw : wantedE ops o a.tmps = some true := by unfold wantedE; rw [hg]
        rw [hw]
        simp only [fcV_eq, fcH_eq]
        unfold eOp
        by_cases hl : isLight P o = true
        · simp only [hl, if_true]
          cases hv : eLight P o (evL a) h with
          | none => rfl
          | some v => simp only [Option.map_some, putF_eq, bnd_some]; exact ih _ _
        · simp only [hl, Bool.false_eq_true, if_false]
          cases hv : eHeavy P inv o (evL a) h with
          | none => rfl
          | some p => simp only [putF_eq, bnd_some]; exact ih _ _
      | some g =>
        obtain ⟨j, want⟩ := g
        have hw : wantedE ops o a.tmps = wantV (slotOf ops a.tmps j) want := by unfold wantedE wantV slotOf; rw [hg]; rfl
        rw [hw]
        dsimp only
        unfold gd
        cases hv : wantV (slotOf ops a.tmps j) want with
        | none => rfl
        | some b =>
          cases b with
          | false => simp only [putF_eq, bnd_some]; exact ih _ _
          | true =>
            simp only [fcV_eq, fcH_eq]
            cases hop : eOp P inv o (evL a) h with
            | none => rfl
            | some p => simp only [putF_eq, bnd_some]; exact ih _ _

/-! ### Regions that draw -/
def gd3 (x : Option Value) (want : Bool) (h : AH) (s : Option (Value × AH)) : Option (Value × AH × Bool) := match wantV x want with
  | some true => (match s with
    | some p => some (p.1, p.2, true)
    | none => none)
  | some false => some (skipped, h, false)
  | none => none
def kTr (P : Program) (inv : Inv) (ops : Array Oper) : List Nat → Act → AH → List TR → (Act → AH → List TR → Option β) → Option β
  | [], a, h, ts, K => K a h ts
  | i :: is, a, h, ts, K => match ops.toList[i]? with
    | none => none
    | some o => match o.guard with
      | none => if isLight P o then bnd (eLight P o (evL a) h) fun v => kTr P inv ops is (a.put o.dst v) h (ts ++ [⟨i, o, a, h, v, h, true⟩]) K
        else bnd (eHeavy P inv o (evL a) h) fun p => kTr P inv ops is (a.put o.dst p.1) p.2 (ts ++ [⟨i, o, a, h, p.1, p.2, true⟩]) K
      | some (j, want) => bnd (gd3 (slotOf ops a.tmps j) want h (eOp P inv o (evL a) h)) fun p => kTr P inv ops is (a.put o.dst p.1) p.2.1 (ts ++ [⟨i, o, a, h, p.1, p.2.1, p.2.2⟩]) K
theorem kTr_eq (P : Program) (inv : Inv) (ops : Array Oper) (is : List Nat) (a : Act) (h : AH) (ts : List TR) (K : Act → AH → List TR → Option β) :
    bnd (eTrace P inv ops is a h) (fun r => K r.2.1 r.2.2 (ts ++ r.1)) = kTr P inv ops is a h ts K := by
  induction is generalizing a h ts with
  | nil => simp [eTrace, kTr]
  | cons i is ih =>
    have step : ∀ (t : TR) (a1 : Act) (h1 : AH), bnd (match eTrace P inv ops is a1 h1 with
        | none => none
        | some (ts, a', h') => some (t :: ts, a', h')) (fun r => K r.2.1 r.2.2 (ts ++ r.1)) = kTr P inv ops is a1 h1 (ts ++ [t]) K := by
      intro t a1 h1
      rw [← ih]
      cases eTrace P inv ops is a1 h1 with
      | none => rfl
      | some r => simp
    simp only [eTrace, kTr, eStep]
    cases ho : ops.toList[i]? with
    | none => rfl
    | some o =>
      simp only
      cases hg : o.guard with
      | none =>
        have hw : wantedE ops o a.tmps = some true := by unfold wantedE; rw [hg]
        rw [hw]
        simp only [fcV_eq, fcH_eq]
        unfold eOp
        by_cases hl : isLight P o = true
        · simp only [hl, if_true]
          cases hv : eLight P o (evL a) h with
          | none => rfl
          | some v => simp only [Option.map_some, putF_eq, bnd_some]; exact step _ _ _
        · simp only [hl, Bool.false_eq_true, if_false]
          cases hv : eHeavy P inv o (evL a) h with
          | none => rfl
          | some p => simp only [putF_eq, bnd_some]; exact step _ _ _
      | some g =>
        obtain ⟨j, want⟩ := g
        have hw : wantedE ops o a.tmps = wantV (slotOf ops a.tmps j) want := by unfold wantedE wantV slotOf; rw [hg]; rfl
        rw [hw]
        dsimp only
        unfold gd3
        cases hv : wantV (slotOf ops a.tmps j) want with
        | none => rfl
        | some b =>
          cases b with
          | false => simp only [putF_eq, bnd_some]; exact step _ _ _
          | true =>
            simp only [fcV_eq, fcH_eq]
            cases hop : eOp P inv o (evL a) h with
            | none => rfl
            | some p => simp only [putF_eq, bnd_some]; exact step _ _ _

/-! ### Code -/
/-- A branch by a value. -/
def brV (x : Value) (t e : Option β) : Option β := match x with
  | .bool true => t
  | .bool false => e
  | _ => none
@[simp] theorem brV_true (t e : Option β) : brV (.bool true) t e = t := rfl
@[simp] theorem brV_false (t e : Option β) : brV (.bool false) t e = e := rfl
theorem brV_bool (b : Bool) (t e : Option β) : brV (.bool b) t e = bif b then t else e := by cases b <;> rfl
/-- A region that draws: whether what is read is the same whenever it may be read is asked behind it. -/
def kDraw (P : Program) (inv : Inv) (ops : Array Oper) (a : Act) (h : AH) (K : Act → AH → Option β) : Option β :=
  bnd (eRegion P inv ops true a h) fun r => K r.1 r.2
def kCode (E : Env) (f : FuncId) (rd : Bool) (inv : Inv) (k : Nat) (c : Code) (a : Act) (h : AH) (K : XE → Act → AH → Option β) : Option β :=
  bnd (eCode E f rd inv k c a h) fun r => K r.1 r.2.1 r.2.2
/-- Rounds of a loop, its body in this style. -/
def kLoop (body : Act → AH → (XE → Act → AH → Option β) → Option β) : Nat → Act → AH → (XE → Act → AH → Option β) → Option β
  | 0, _, _, _ => none
  | j + 1, a, h, K => body a h fun e a h => match e with
    | .normal => kLoop body j a h K
    | e => K e a h
theorem kDraw_eq (P : Program) (inv : Inv) (ops : Array Oper) (a : Act) (h : AH) (K : Act → AH → Option β) :
    kDraw P inv ops a h K = kTr P inv (drawOps P ops) (List.range (drawOps P ops).size) a h [] fun a h ts => bif calm P (drawOps P ops) ts then K a h else none := by
  rw [← kTr_eq]
  unfold kDraw eRegion
  simp only [if_true]
  cases eTrace P inv (drawOps P ops) (List.range (drawOps P ops).size) a h with
  | none => rfl
  | some r =>
    obtain ⟨ts, a1, h1⟩ := r
    simp only [bnd_some, List.nil_append]
    cases calm P (drawOps P ops) ts <;> rfl
variable {E : Env} {f : FuncId} {rd : Bool} {inv : Inv} {k : Nat} {a : Act} {h : AH} {K : XE → Act → AH → Option β}
theorem kCode_skip : kCode E f rd inv k .skip a h K = K .normal a h := rfl
theorem kCode_label (l : _) : kCode E f rd inv k (.label l) a h K = K .normal a h := rfl
theorem kCode_ret : kCode E f rd inv k .ret a h K = K .ret a h := rfl
theorem kCode_exit (id : Nat) : kCode E f rd inv k (.exit id) a h K = K (.exit id) a h := rfl
theorem kCode_scope (c : Code) : kCode E f rd inv k (.scope c) a h K = kCode E f rd inv k c a h K := rfl
theorem kCode_seq (x y : Code) : kCode E f rd inv k (.seq x y) a h K = kCode E f rd inv k x a h fun e a h => match e with
    | .normal => kCode E f rd inv k y a h K
    | e => K e a h := by
  simp only [kCode, eCode]
  cases eCode E f rd inv k x a h with
  | none => rfl
  | some r => obtain ⟨e, a1, h1⟩ := r; cases e <;> rfl
theorem kCode_cond (c : Operand) (x y : Code) : kCode E f rd inv k (.cond c x y) a h K = brV (evL a c) (kCode E f rd inv k x a h K) (kCode E f rd inv k y a h K) := by
  simp only [kCode, eCode, evL_eq, brV]
  split
  · rename_i hv; rw [hv]
  · rename_i hv; rw [hv]
  · rename_i h1 h2
    split
    · exact absurd (by assumption) h1
    · exact absurd (by assumption) h2
    · rfl
theorem kCode_block (id : Nat) (c : Code) : kCode E f rd inv k (.block id c) a h K = kCode E f rd inv k c a h fun e a h => match e with
    | .exit id' => if id' = id then K .normal a h else K (.exit id') a h
    | e => K e a h := by
  simp only [kCode, eCode]
  cases eCode E f rd inv k c a h with
  | none => rfl
  | some r =>
    obtain ⟨e, a1, h1⟩ := r
    cases e with
    | exit id' => simp only [bnd_some]; split <;> rfl
    | _ => rfl
theorem eLoop_k (body : Act → AH → St) (kb : Act → AH → (XE → Act → AH → Option β) → Option β) (hb : ∀ a h K, bnd (body a h) (fun r => K r.1 r.2.1 r.2.2) = kb a h K) (j : Nat) (a : Act) (h : AH) :
    bnd (eLoop body j a h) (fun r => K r.1 r.2.1 r.2.2) = kLoop kb j a h K := by
  induction j generalizing a h with
  | zero => rfl
  | succ j ih =>
    simp only [eLoop, kLoop]
    rw [← hb]
    cases body a h with
    | none => rfl
    | some r => obtain ⟨e, a1, h1⟩ := r; cases e <;> first | exact ih _ _ | rfl
theorem kCode_loop (c : Code) : kCode E f rd inv k (.loop c) a h K = kLoop (kCode E f rd inv k c) k a h K := by
  simp only [kCode, eCode]
  exact eLoop_k _ _ (fun a h K => rfl) k a h
theorem kCode_region (id : Nat) (ops : Array Oper) : kCode E f rd inv k (.region id ops false) a h K = kOps E.P inv ops (List.range ops.size) a h fun a h => K .normal (forget (E.FT f id) a) h := by
  simp only [kCode, eCode, eRegion, Bool.false_eq_true, if_false]
  rw [← kOps_eq]
  cases eOps E.P inv ops (List.range ops.size) a h <;> rfl
theorem kCode_draw (id : Nat) (ops : Array Oper) : kCode E f rd inv k (.region id ops true) a h K = kDraw E.P inv ops a h fun a h => K .normal (forget (E.FT f id) a) h := by
  simp only [kCode, eCode, kDraw]
  cases eRegion E.P inv ops true a h <;> rfl
/-- A range over a function, as a function of the way out. -/
def kRange (E : Env) (f : FuncId) (inv : Inv) (g : Value) (ps : Array Tmp) (as bd : Code) (a : Act) (h : AH) (K : XE → AH → Option β) : Option β :=
  bif E.enters g then bnd (eRange f inv g ps as bd a h) fun r => K r.1 r.2.2 else none
theorem eRange_out {g : Value} {ps : Array Tmp} {as bd : Code} {r : XE × Act × AH} (he : eRange f inv g ps as bd a h = some r) : r.2.1 = a ∧ (∀ id, r.1 = .exit id → (exitIds bd).contains id = true) ∧ (r.1 = .ret → hasRet bd = true) := by
  unfold eRange at he
  split at he
  · split at he
    · split at he
      · split at he
        · cases he
        · dsimp only at he
          split at he
          · cases he; exact ⟨rfl, fun id h => (by cases h), fun h => (by cases h)⟩
          · split at he
            · rename_i hc; cases he; exact ⟨rfl, fun id h => (by cases h), fun _ => hc⟩
            · cases he
          · split at he
            · rename_i hc; cases he; exact ⟨rfl, fun id h => (by cases h; exact hc), fun h => (by cases h)⟩
            · cases he
          · cases he
      · cases he
    · cases he
  · cases he
theorem kCode_range (g : Operand) (ps : Array Tmp) (as bd : Code) : kCode E f false inv k (.rangeFunc g ps as bd) a h K = kRange E f inv (evL a g) ps as bd a h fun e h => K e a h := by
  simp only [kCode, eCode, kRange, evL_eq, Bool.false_or]
  cases E.enters (a.eval g) with
  | false => rfl
  | true =>
    simp only [Bool.not_true, Bool.false_eq_true, if_false, cond_true]
    cases hr : eRange f inv (a.eval g) ps as bd a h with
    | none => rfl
    | some r => simp only [bnd_some]; rw [(eRange_out hr).1]
/-- What comes behind by the way out. -/
def sw (e : XE) (n r : Option β) (l : List (Nat × Option β)) : Option β := match e with
  | .normal => n
  | .ret => r
  | .exit id => match l.find? (·.1 == id) with
    | some x => x.2
    | none => none
theorem kRange_sw {g : Value} {ps : Array Tmp} {as bd : Code} {a0 : Act} (ids : List Nat) (hid : (exitIds bd).all (fun i => ids.contains i) = true) :
    kRange E f inv g ps as bd a0 h (fun e h => K e a h) = kRange E f inv g ps as bd a0 h fun e h => sw e (K .normal a h) (bif hasRet bd then K .ret a h else none) (ids.map fun i => (i, K (.exit i) a h)) := by
  unfold kRange
  cases E.enters g with
  | false => rfl
  | true =>
    simp only [cond_true]
    cases hr : eRange f inv g ps as bd a0 h with
    | none => rfl
    | some r =>
      simp only [bnd_some]
      obtain ⟨e, a1, h1⟩ := r
      cases e with
      | normal => rfl
      | ret => simp only [sw]; rw [(eRange_out hr).2.2 rfl]; rfl
      | exit id =>
        have h2 := (eRange_out hr).2.1 id rfl
        have h3 : ids.contains id = true := List.all_eq_true.1 hid id (by simpa using h2)
        simp only [sw]
        have : (ids.map fun i => (i, K (.exit i) a h1)).find? (·.1 == id) = some (id, K (.exit id) a h1) := by
          clear hid h2 hr
          induction ids with
          | nil => simp at h3
          | cons i is ih =>
            by_cases hi : i = id
            · subst hi; simp
            · have : is.contains id = true := by
                simp only [List.contains_cons, Bool.or_eq_true, beq_iff_eq] at h3
                rcases h3 with h3 | h3
                · exact absurd h3.symm hi
                · exact h3
              simp only [List.map_cons, List.find?_cons]
              rw [show ((i, K (.exit i) a h1).1 == id) = false by simpa using hi]
              exact ih this
        rw [this]
/-- A function, its code in this style. -/
theorem eFun_k {fn : Func} {c : Code} (hO : E.O f = none) (hL : E.L f = true) (hf : E.P.funcs[f]? = some fn) (hb : fn.body = some c) (args : Array Value) :
    eFun E k inv f args h = kCode E f false inv k c { tmps := args ++ Array.replicate (fn.ntmps - args.size) unk, defers := [] } h fun e a h => match e with
      | .exit _ => none
      | _ => (eResults E.P fn a h).map fun v => (v, h) := by
  unfold eFun
  rw [hO, hL, hf]
  simp only [if_true, hb, fcA_eq (fcV_eq 8), kCode]
  cases eCode E f false inv k c { tmps := args ++ Array.replicate (fn.ntmps - args.size) unk, defers := [] } h with
  | none => rfl
  | some r => obtain ⟨e, a1, h1⟩ := r; cases e <;> rfl
end Go.Proofs.Ev
