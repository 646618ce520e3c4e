/- A law without arguments; what a row's statement asks of a walk, over 'Below'. -/
import Derived.Test.YtpiibdegmimckaaEv15
import Derived.ProofKit
import Derived.Laws.Externs
set_option linter.unusedVariables false
set_option linter.unusedSimpArgs false
namespace Go.Proofs.Ev
open Go Go.RowKit Go.ChangeShapes Go.WideShapes Go.ChangeAt

def AH.none : AH := ⟨0, []⟩
theorem Sim.none (G : Code → Prop) (P : Program) (w : World) : Sim G P w (fun _ => Option.none) [] AH.none w :=
  ⟨Below.refl _ _, fun i r h => (by cases h), fun i o h => (by simp [AH.get, AH.none] at h), fun i j oi oj ri rj _ h => (by simp [AH.get, AH.none] at h), fun d h => (by cases h), List.nodup_nil, fun b o h => (by cases h)⟩
/-- A law of no argument, told true by the evaluator. -/
theorem law0 {E : Env} (hE : EnvOK E) {k : Nat} {f : FuncId} (he : (eFun E k (eInv E k) f #[] AH.none).map (·.1) = some (.bool true)) (w : World) :
    Calls E.P f #[] w fun e w' => e = .returned (.bool true) ∧ Below w.heap.size w w' := by
  cases h1 : eFun E k (eInv E k) f #[] AH.none with
  | none => rw [h1] at he; cases he
  | some q =>
    obtain ⟨v, h2⟩ := q
    rw [h1] at he
    simp only [Option.map_some, Option.some.injEq] at he
    subst he
    refine callsIn_wide.1 ((calls_sim hE h1 (Sim.none (GC E.P) E.P w) (args' := #[]) ⟨rfl, fun i v v' h => by simp at h⟩).mono fun e w' hq => ?_)
    obtain ⟨ρ', v', rfl, _, hv, hs⟩ := hq
    cases hv
    exact ⟨rfl, hs.below⟩

/-- True is told. -/
def tellsTrue (o : Option (Value × AH)) : Bool := match o with
  | some (.bool b, _) => b
  | _ => false
theorem law0' {E : Env} (hE : EnvOK E) {k : Nat} {f : FuncId} (he : tellsTrue (eFun E k (eInv E k) f #[] AH.none) = true) (w : World) :
    Calls E.P f #[] w fun e w' => e = .returned (.bool true) ∧ Below w.heap.size w w' := by
  refine law0 hE (k := k) ?_ w
  unfold tellsTrue at he
  split at he
  · rename_i b h2 h1
    subst he
    rw [h1]; rfl
  · cases he
/-- As 'post_of_same', from 'Below'. -/
theorem post_of_below {P : Program} {H : Type} {enc : TypeId × Value → H} {f : Func} {s : ChangeSpec} {apart fresh handsOn again : Bool} {W W' : World} {args : Array Value} {v : Value} {ds gs : List (DataW H)} {before pa pv : List MemPlace}
    (hW : DataW.Whole enc P f.params.toList s.vars apart W args.toList ds gs before)
    (hres : ∀ (b : Nat) (sp : Nat → Bool) (hd : Bool), DataW.TrodAll enc P W' b sp hd f.resultTypes.toList (v.resultList f.resultTypes.size) (s.fn H (ds ++ gs)).results [])
    (hargs : ∀ sp : Nat → Bool, (∀ p ∈ before, sp p.block = true) → DataW.TrodAll enc P W' 0 sp true f.params.toList args.toList (s.fn H (ds ++ gs)).args pa)
    (hvars : ∀ sp : Nat → Bool, (∀ p ∈ before, sp p.block = true) → DataW.TrodVars enc P W' sp s.vars (s.fn H (ds ++ gs)).vars pv)
    (hps : before = pa ++ pv) (hB : Below W.heap.size W W')
    (hok : ∀ (j : Nat) (t : TypeId) (r : Value), f.resultTypes[j]? = some t → (v.resultList f.resultTypes.size)[j]? = some r → Value.okWide P W' .any 0 t r) :
    s.post enc P f apart fresh handsOn again W args v W' := by
  have hlt := hW.lt
  have hold : ∀ p ∈ before, (fun b => decide (b < W.heap.size)) p.block = true := fun p hp => by simpa using hlt p hp
  refine ⟨ds, gs, before, [], pa, pv, hW, hres _ _ _, hargs _ hold, hvars _ hold, World.keptBut_mono (fun p hp => ⟨hp, ?_⟩) (hB.frame (· ∈ before)), fun _ => ?_⟩
  · rw [hps, List.mem_append] at hp
    exact Or.inr hp
  · obtain ⟨_, _, _, _, _, hz, hn⟩ := hW
    refine ⟨hok, _, _, ([] ++ pa) ++ pv, ⟨[] ++ pa, pv, trodAll_append (hargs _ (fun _ _ => rfl)) (hres _ _ _), hvars _ (fun _ _ => rfl), rfl, ?_, ?_⟩, ?_⟩
    · intro b off hp
      have hb : MemPlace.cell b off ∈ before := by rw [hps]; simpa using hp
      exact (hB.frozen (p := ⟨b, off, none⟩) (hlt _ hb)).trans (hz b off hb)
    · intro ha
      have := hn ha
      rw [hps] at this
      simpa using this
    · intro p hp _
      rw [hps]
      simpa using hp

/-- A function whose code the evaluator may be asked of. -/
def okFun (P : Program) (f : FuncId) : Bool := match P.funcs[f]? with
  | some fn => (match fn.body with
    | some c => goodC P c && !(fn.name == "runtime.NumGoroutine")
    | none => false)
  | none => false
theorem okFun_spec {P : Program} {f : FuncId} (h : okFun P f = true) : ∃ fn c, P.funcs[f]? = some fn ∧ fn.body = some c ∧ goodC P c = true ∧ (fn.name == "runtime.NumGoroutine") = false := by
  unfold okFun at h
  split at h
  · rename_i fn hf
    split at h
    · rename_i c hc
      simp only [Bool.and_eq_true, Bool.not_eq_true'] at h
      exact ⟨fn, c, hf, hc, h.1, h.2⟩
    · cases h
  · cases h
/-- The plain setting: these functions' code, nothing forgotten, no oracle. -/
def plainE (P : Program) (fs : List FuncId) : Env := { P := P, L := fun f => fs.contains f, FT := fun _ _ => [], O := fun _ => Option.none, X := fun _ => Option.none }
theorem plainE_ok {P : Program} {fs : List FuncId} (hm : P.follows .mixedOrders = true) (h : fs.all (okFun P) = true) : EnvOK (plainE P fs) :=
  ⟨hm, fun f hf => okFun_spec (List.all_eq_true.1 h f (by simpa [plainE] using hf)), fun f g hg => (by cases hg), fun f g hg => (by cases hg)⟩
/-! ### A function without Go text: the comparison of two strings -/
def cmpX (as : Array Value) : Option Value := match as.toList with
  | [.string a, .string b] => some (goInt (Extern.BytealgCompare.cmp a b))
  | _ => Option.none
structure CmpFun (P : Program) (f : FuncId) : Prop where
  at_ : ∃ fn, P.funcs[f]? = some fn ∧ (fn.name == "runtime.NumGoroutine") = false ∧ fn.body.isNone = true ∧ Extern.findNext fn = Option.none ∧ Extern.find fn = some Extern.BytealgCompare.compare
theorem cmpX_ok {P : Program} {f : FuncId} (hf : CmpFun P f) (args : Array Value) (v : Value) (h : cmpX args = some v) (ρ : Ren) (args' : Array Value) (ha : AsR ρ args args') (w : World) :
    ∃ v', (callFunc f args').run P w = .ok (.value v') w ∧ VR ρ v v' := by
  unfold cmpX at h
  split at h
  · rename_i a b hab
    cases h
    have hl := AsR.list.1 ha
    rw [hab] at hl
    generalize hl' : args'.toList = l' at hl
    cases hl with
    | cons h1 hr =>
      cases h1
      cases hr with
      | cons h2 hr2 =>
        cases h2
        cases hr2
        obtain rfl : args' = #[.string a, .string b] := Array.toList_inj.1 (by simpa using hl')
        obtain ⟨fn, k1, k2, k3, k4, k5⟩ := hf.at_
        refine ⟨_, ?_, .int _ _⟩
        rw [run_callFunc_extern k1 k2 k3 k4 k5]
        rfl
  · cases h
/-- These functions' code, and (where the program has it) the comparison of strings. -/
def cmpE (P : Program) (fs : List FuncId) (x : FuncId) : Env := { plainE P fs with X := fun f => if f = x then some cmpX else Option.none }
theorem cmpE_ok {P : Program} {fs : List FuncId} {x : FuncId} (hm : P.follows .mixedOrders = true) (h : fs.all (okFun P) = true) (hx : CmpFun P x) : EnvOK (cmpE P fs x) :=
  ⟨hm, fun f hf => okFun_spec (List.all_eq_true.1 h f (by simpa [cmpE, plainE] using hf)), fun f g hg => (by cases hg), fun f g hg => by
    simp only [cmpE] at hg
    split at hg
    · rename_i hfx
      subst hfx
      cases hg
      exact cmpX_ok hx
    · cases hg⟩
end Go.Proofs.Ev
