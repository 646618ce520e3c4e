/- Which predicates may be: 'pred.Check'. -/
import Derived.Test.YtjmfokglckaneaaSzVj
set_option linter.unusedVariables false
set_option linter.unusedSimpArgs false
set_option maxRecDepth 100000
namespace Go.Proofs.Ytjmfokglckaneaa.Sh
open Go Go.RowKit Go.Proofs.Ev
/-! ### 'slices.ContainsFunc' of numbers -/
/-! ### How often nodes are used -/
def usePs (i : Nat) : List Int → List Int → Option (List Int)
  | [], u => some u
  | n :: ns, u => if 0 ≤ n ∧ n < i then usePs i ns (u.set n.toNat ((u[n.toNat]?).getD 0 + 1)) else none
def checkF (cols : List ColD) : Nat → List NodeD → List Int → Option (List Int)
  | _, [], u => some u
  | i, nd :: l, u => if nodeOk cols nd then (usePs i nd.parts u).bind (checkF cols (i + 1) l) else none
def predOk (cols : List ColD) (l : List NodeD) : Bool :=
  colsOk cols && (decide (l.length ≤ 64) && match checkF cols 0 l (List.replicate l.length 0) with
    | none => false
    | some u => !((u.take (l.length - 1)).any fun n => n != 1))
end Go.Proofs.Ytjmfokglckaneaa.Sh
