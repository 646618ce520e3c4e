/- Cells in order: kinds, numbers, texts; it is a total order. No program in sight. -/
import Derived.Test.YtagcejlclcldcaaEvB
set_option linter.unusedVariables false
set_option linter.unusedSimpArgs false
namespace Go.Proofs.Ev
open Go Go.Lib

def cmpI (a b : Int) : Int := if a < b then -1 else if b < a then 1 else 0
structure CellD where
  k : Int
  i : Int
  s : ByteArray
  deriving DecidableEq
def CellD.bytes (a : CellD) : List UInt8 := a.s.data.toList
/-- The first that is not zero. -/
def orI (a b : Int) : Int := if a = 0 then b else a
def CellD.cmp (a b : CellD) : Int := orI (cmpI a.k b.k) (orI (cmpI a.i b.i) (compareBytes a.bytes b.bytes))
/-- A cell as a value. -/
def CellD.v (a : CellD) : Value := .agg #[.int .i64 a.k, .int .i64 a.i, .string a.s]
end Go.Proofs.Ev
