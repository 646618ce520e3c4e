/- Which predicates may be: 'pred.node', 'pred.Check'. -/
import Derived.Test.YtjmfokglckaneaaSzVi
import Derived.Test.YtjmfokglckaneaaSzVc
set_option linter.unusedVariables false
set_option linter.unusedSimpArgs false
set_option maxRecDepth 100000
namespace Go.Proofs.Ytjmfokglckaneaa.Sh
open Go Go.RowKit Go.Proofs.Ev
def partsOk (op : Int) (n : Nat) : Bool := if 1 ≤ op ∧ op ≤ 5 then decide (n = 0) else if op = 6 ∨ op = 7 then decide (0 < n) else if op = 8 then decide (n = 1) else false
def valueOk (cols : List ColD) (nd : NodeD) : Bool :=
  if 2 ≤ nd.op ∧ nd.op ≤ 4 then cellOk nd.val && (match cols[nd.col.toNat]? with
    | some c => decide (nd.val.k = c.kind)
    | none => false) else decide (nd.val = cellZ)
def colOk (cols : List ColD) (nd : NodeD) : Bool := if 2 ≤ nd.op ∧ nd.op ≤ 5 then decide (0 ≤ nd.col ∧ nd.col < cols.length) else decide (nd.col = 0)
def nodeOk (cols : List ColD) (nd : NodeD) : Bool := colOk cols nd && (valueOk cols nd && partsOk nd.op nd.parts.length)
end Go.Proofs.Ytjmfokglckaneaa.Sh
