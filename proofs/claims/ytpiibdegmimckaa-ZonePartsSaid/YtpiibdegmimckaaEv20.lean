/- A round of a range over a function, in the style of continuations. -/
import Derived.Test.YtpiibdegmimckaaEv19
set_option linter.unusedVariables false
set_option linter.unusedSimpArgs false
namespace Go.Proofs.Ev
open Go Go.RowKit
variable {β : Type}
def rdBegin (l : Nat) (h1 : AH) (K : AH → Option β) : Option β := match h1.get l with
  | some (.loop .ready pend f1 ts1 ps1 as1 bd1) => K (h1.set l (.loop .busy pend f1 ts1 ps1 as1 bd1))
  | _ => none
def pendOf : XE → Option Code
  | .normal => none
  | .ret => some .ret
  | .exit id => some (.exit id)
def rdEnd (l : Nat) (x : XE) (h2 : AH) : Option (Value × AH) := match h2.get l with
  | some (.loop _ _ f2 ts2 ps2 as2 bd2) => some (.bool (pendOf x).isNone, h2.set l (.loop (if (pendOf x).isNone then .ready else .done) (pendOf x) f2 ts2 ps2 as2 bd2))
  | _ => none
variable {E : Env} {f : FuncId} {inv : Inv} {k : Nat} {a : Act} {h : AH}
theorem eRound_k {l : Nat} {args : Array Value} {pd : Option Code} {ts : Array Value} {ps : Array Tmp} {as bd : Code} (hl : h.get l = some (.loop .ready pd f ts ps as bd)) (hs : args.size = ps.size)
    (ha : (⟨(ps.zip args).foldl (fun tmps (t, a) => tmps.setIfInBounds t a) ts, []⟩ : Act) = a) :
    eRound E k inv l args h = kCode E f true inv k as a h fun e a h1 => match e with
      | .normal => rdBegin l h1 fun h2 => kCode E f true inv k bd a h2 fun x _ h3 => rdEnd l x h3
      | _ => none := by
  subst ha
  unfold eRound
  rw [hl]
  simp only [fcA_eq (fcV_eq 8), hs, ne_eq, not_true, if_false, kCode]
  cases eCode E f true inv k as ⟨(ps.zip args).foldl (fun tmps (t, a) => tmps.setIfInBounds t a) ts, []⟩ h with
  | none => rfl
  | some r =>
    obtain ⟨e, a1, h1⟩ := r
    cases e with
    | ret => rfl
    | exit id => rfl
    | normal =>
      simp only [bnd_some, rdBegin]
      cases h1.get l with
      | none => rfl
      | some o =>
        cases o with
        | loop st pend f1 ts1 ps1 as1 bd1 =>
          cases st <;> try rfl
          simp only
          cases eCode E f true inv k bd a1 (h1.set l (.loop .busy pend f1 ts1 ps1 as1 bd1)) with
          | none => rfl
          | some r2 =>
            obtain ⟨x, a2, h2⟩ := r2
            simp only [bnd_some, rdEnd]
            cases h2.get l with
            | none => rfl
            | some o2 => cases o2 <;> first | rfl | (cases x <;> rfl)
        | _ => rfl
end Go.Proofs.Ev
