/- Texts that are read: 'read', 'words'. -/
import Derived.Test.YtghelamfaaakcaaGreatSzXd
import Derived.Test.YtghelamfaaakcaaGreatSzBs
set_option linter.unusedVariables false
set_option linter.unusedSimpArgs false
set_option maxRecDepth 100000
namespace Go.Proofs.YtghelamfaaakcaaGreat.Sh
open Go Go.RowKit Go.Proofs.Ev
def readT : Nat → List Nat → Option (List ByteArray × List Nat)
  | 0, r => some ([], r)
  | n + 1, r => match dec 0 0 r with
    | none => none
    | some (s, r1) => if s > 65536 ∨ r1.length < s then none else (readT n (r1.drop s)).map fun p => (strB (r1.take s) :: p.1, p.2)
def lookT (w : List ByteArray) : List Nat → Option (List ByteArray)
  | [] => some []
  | i :: l => match w[i]? with
    | none => none
    | some s => (lookT w l).map (s :: ·)
def wordsT (n : Nat) (r : List Nat) : Option (List ByteArray) := match dec 0 0 r with
  | none => none
  | some (k, r1) => if k > n then none else match readT k r1 with
    | none => none
    | some (w, r2) => match r2 with
      | [] => none
      | wd :: r3 => if Pk.checkE r3 (n : Int) (wd : Int) ≠ 0 then none else lookT w (Pk.getN r3 (n : Int) (wd : Int))
section
variable {n0 : Nat} {h0 h : AH} {L : List (Nat × AO)} {O : List OS} {i br : Nat} {rv : Value} {rest : List Nat}
end
end Go.Proofs.YtghelamfaaakcaaGreat.Sh
