/- Parts of code by their place, and the laws of Ev18 over them: what a printed shallow function's proof is made of. -/
import Derived.Test.YtpiibdegmimckaaEv18
set_option linter.unusedVariables false
set_option linter.unusedSimpArgs false
namespace Go.Proofs.Ev
open Go Go.RowKit
variable {β : Type}

/-- Temporaries, those that bear something listed. -/
def fillA : List Value → List (Nat × Value) → List Value
  | l, [] => l
  | l, (i, v) :: xs => fillA (l.set i v) xs
def act (n : Nat) (xs : List (Nat × Value)) : Act := ⟨⟨fillA (List.replicate n unk) xs⟩, []⟩
def cl : Code → Code
  | .seq x _ | .cond _ x _ => x
  | .block _ c | .loop c | .scope c => c
  | .rangeFunc _ _ x _ => x
  | c => c
def cr : Code → Code
  | .seq _ y | .cond _ _ y => y
  | .rangeFunc _ _ _ y => y
  | c => c
def kindOf : Code → Nat
  | .skip => 0
  | .label _ => 1
  | .ret => 2
  | .exit _ => 3
  | .seq .. => 4
  | .cond .. => 5
  | .block .. => 6
  | .loop _ => 7
  | .scope _ => 8
  | .region _ _ false => 9
  | .region _ _ true => 10
  | .rangeFunc .. => 11
  | _ => 12
def opsOf : Code → Array Oper
  | .region _ ops _ => ops
  | _ => #[]
def idOf : Code → Nat
  | .region id _ _ | .block id _ | .exit id => id
  | _ => 0
def opnd : Code → Operand
  | .cond c _ _ | .rangeFunc c _ _ _ => c
  | _ => .func 0
def psOf : Code → Array Tmp
  | .rangeFunc _ ps _ _ => ps
  | _ => #[]
def codeOf (P : Program) (f : FuncId) : Code := match P.funcs[f]? with
  | some fn => (fn.body).getD .skip
  | none => .skip
variable {E : Env} {f : FuncId} {rd : Bool} {inv : Inv} {k : Nat} {a : Act} {h : AH} {K : XE → Act → AH → Option β} {c : Code}
theorem k_skip (hc : kindOf c = 0) : kCode E f rd inv k c a h K = K .normal a h := by
  unfold kindOf at hc; split at hc <;> first | rfl | cases hc
theorem k_label (hc : kindOf c = 1) : kCode E f rd inv k c a h K = K .normal a h := by
  unfold kindOf at hc; split at hc <;> first | rfl | cases hc
theorem k_ret (hc : kindOf c = 2) : kCode E f rd inv k c a h K = K .ret a h := by
  unfold kindOf at hc; split at hc <;> first | rfl | cases hc
theorem k_exit {id : Nat} (hc : (kindOf c, idOf c) = (3, id)) : kCode E f rd inv k c a h K = K (.exit id) a h := by
  unfold kindOf at hc; split at hc <;> simp only [Prod.mk.injEq] at hc <;> first | (obtain ⟨_, rfl⟩ := hc; rfl) | (exact absurd hc.1 (by decide))
theorem k_seq (hc : kindOf c = 4) : kCode E f rd inv k c a h K = kCode E f rd inv k (cl c) a h fun e a h => match e with
    | .normal => kCode E f rd inv k (cr c) a h K
    | e => K e a h := by
  unfold kindOf at hc; split at hc <;> first | exact kCode_seq _ _ | cases hc
theorem k_cond (hc : kindOf c = 5) : kCode E f rd inv k c a h K = brV (evL a (opnd c)) (kCode E f rd inv k (cl c) a h K) (kCode E f rd inv k (cr c) a h K) := by
  unfold kindOf at hc; split at hc <;> first | exact kCode_cond _ _ _ | cases hc
theorem k_block {id : Nat} (hc : (kindOf c, idOf c) = (6, id)) : kCode E f rd inv k c a h K = kCode E f rd inv k (cl c) a h fun e a h => match e with
    | .exit id' => if id' = id then K .normal a h else K (.exit id') a h
    | e => K e a h := by
  unfold kindOf at hc; split at hc <;> simp only [Prod.mk.injEq] at hc <;> first | (obtain ⟨_, rfl⟩ := hc; exact kCode_block _ _) | (exact absurd hc.1 (by decide))
theorem k_loop (hc : kindOf c = 7) : kCode E f rd inv k c a h K = kLoop (kCode E f rd inv k (cl c)) k a h K := by
  unfold kindOf at hc; split at hc <;> first | exact kCode_loop _ | cases hc
theorem k_scope (hc : kindOf c = 8) : kCode E f rd inv k c a h K = kCode E f rd inv k (cl c) a h K := by
  unfold kindOf at hc; split at hc <;> first | rfl | cases hc
theorem k_reg (hc : kindOf c = 9) : kCode E f rd inv k c a h K = kOps E.P inv (opsOf c) (List.range (opsOf c).size) a h fun a h => K .normal (forget (E.FT f (idOf c)) a) h := by
  unfold kindOf at hc; split at hc <;> first | exact kCode_region _ _ | cases hc
theorem k_draw (hc : kindOf c = 10) : kCode E f rd inv k c a h K = kTr E.P inv (drawOps E.P (opsOf c)) (List.range (drawOps E.P (opsOf c)).size) a h [] fun a h ts => bif calm E.P (drawOps E.P (opsOf c)) ts then K .normal (forget (E.FT f (idOf c)) a) h else none := by
  unfold kindOf at hc; split at hc <;> first | exact (kCode_draw _ _).trans (kDraw_eq ..) | cases hc

theorem k_range {ids : List Nat} {g : Value} (hc : kindOf c = 11) (hid : (exitIds (cr c)).all (fun i => ids.contains i) = true) (hg : evL a (opnd c) = g) : kCode E f false inv k c a h K =
    kRange E f inv g (psOf c) (cl c) (cr c) a h fun e h => sw e (K .normal a h) (bif hasRet (cr c) then K .ret a h else none) (ids.map fun i => (i, K (.exit i) a h)) := by
  subst hg
  rw [← kRange_sw ids hid]
  unfold kindOf at hc; split at hc <;> first | exact kCode_range _ _ _ _ | cases hc

/-! ### A function, whole -/
def initAct (P : Program) (f : FuncId) (args : Array Value) : Act := match P.funcs[f]? with
  | some fn => { tmps := args ++ Array.replicate (fn.ntmps - args.size) unk, defers := [] }
  | none => ⟨#[], []⟩
def resOfFn (P : Program) (f : FuncId) (e : XE) (a : Act) (h : AH) : Option (Value × AH) := match e with
  | .exit _ => none
  | _ => match P.funcs[f]? with
    | some fn => (eResults P fn a h).map fun v => (v, h)
    | none => none
theorem eFun_k2 {args : Array Value} (hO : (E.O f).isNone = true) (hL : E.L f = true) (hb : ((E.P.funcs[f]?).bind (·.body)).isSome = true) (ha : initAct E.P f args = a) (hcc : codeOf E.P f = c) :
    eFun E k inv f args h = kCode E f false inv k c a h (resOfFn E.P f) := by
  subst hcc
  cases hf : E.P.funcs[f]? with
  | none => rw [hf] at hb; cases hb
  | some fn =>
    rw [hf] at hb
    cases hc : fn.body with
    | none => simp [hc] at hb
    | some c =>
      have hO' : E.O f = none := by simpa using hO
      rw [eFun_k hO' hL hf hc]
      have h1 : codeOf E.P f = c := by unfold codeOf; rw [hf]; simp [hc]
      have h2 : ({ tmps := args ++ Array.replicate (fn.ntmps - args.size) unk, defers := [] } : Act) = a := by rw [← ha]; unfold initAct; rw [hf]
      rw [h1, h2]
      congr 1
      funext e a h
      unfold resOfFn
      rw [hf]
      cases e <;> rfl

def tupV : List Value → Value
  | [v] => v
  | vs => .tuple vs.toArray
def kRes (P : Program) (a : Act) (h : AH) : List ResultVar → (List Value → Option β) → Option β
  | [], K => K []
  | .tmp t :: rs, K => kRes P a h rs fun vs => K (evL a (.tmp t) :: vs)
  | .cell t ty :: rs, K => bnd (pLoad P ty (evL a (.tmp t)) h) fun v => kRes P a h rs fun vs => K (v :: vs)
theorem kRes_eq (P : Program) (a : Act) (h : AH) (rs : List ResultVar) (K : List Value → Option β) : bnd (eResultList P a h rs) K = kRes P a h rs K := by
  induction rs generalizing K with
  | nil => rfl
  | cons r rs ih =>
    have hev : ∀ t, a.tmps.getD t unk = evL a (.tmp t) := fun t => by rw [evL_eq]; rfl
    cases r with
    | tmp t =>
      simp only [eResultList, eResult, kRes]
      rw [← ih, hev]
      cases eResultList P a h rs <;> rfl
    | cell t ty =>
      simp only [eResultList, eResult, kRes]
      rw [hev]
      cases pLoad P ty (evL a (.tmp t)) h with
      | none => rfl
      | some v =>
        simp only [bnd_some]
        rw [← ih]
        cases eResultList P a h rs <;> rfl
def resultsOf (P : Program) (f : FuncId) : List ResultVar := match P.funcs[f]? with
  | some fn => fn.results.toList
  | none => []
theorem resOfFn_k {P : Program} {e : XE} (he : (match e with | .exit _ => false | _ => true) = true) (hf : (P.funcs[f]?).isSome = true) : resOfFn P f e a h = kRes P a h (resultsOf P f) fun vs => some (tupV vs, h) := by
  have : resOfFn P f e a h = match P.funcs[f]? with
    | some fn => (eResults P fn a h).map fun v => (v, h)
    | none => none := by cases e <;> first | rfl | cases he
  rw [this, ← kRes_eq]
  unfold resultsOf
  cases hfn : P.funcs[f]? with
  | none => rw [hfn] at hf; cases hf
  | some fn =>
    simp only [eResults]
    cases eResultList P a h fn.results.toList with
    | none => rfl
    | some vs =>
      match vs with
      | [] => rfl
      | [v] => rfl
      | _ :: _ :: _ => rfl

/-! ### Words of a printed shallow function -/
def resK (rs : List (Option Value)) (h : AH) : Option (Value × AH) := match rs with
  | [some v] => some (v, h)
  | rs => if rs.all (·.isSome) then some (.tuple (rs.filterMap id).toArray, h) else none
def kR (r : XE × Act × AH) (f : AH → Option β) : Option β := f r.2.2
def chkK (c : Bool) (x : Option β) : Option β := bif c then x else none
@[simp] theorem chkK_true (x : Option β) : chkK true x = x := rfl
def pickV (c a b : Value) : Option Value := match c with
  | .bool true => some a
  | .bool false => some b
  | _ => none
def callV (inv : Inv) (f : Value) (args : Array Value) (h : AH) : Option (Value × AH) := match f with
  | .func fn first captured => inv fn captured (first ++ args) h
  | _ => none
def kSt (x : Option AH) : Option (Value × AH) := x.map fun h' => (unk, h')
def lt (x : Option Value) (h : AH) : Option (Value × AH) := x.map fun v => (v, h)
end Go.Proofs.Ev
