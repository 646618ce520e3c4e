/-
  No cell of these rows narrows 'for every input' (looked for: loops, veiled, ifaces, maps, wideKeys, modest, calm, conditions, laid).
  DERIVED. THE GIVEN ROWS OF THIS SEAT. 6 by the template 'for every input the law returns true; each argument reads behind the call as it read before'; 0 by the template 'total and deterministic' (their statements: YtgklcfnjahomjaaTotals.lean).
  GIVEN WITH THE SEED: the statements are not yours to turn. If you find one false, say at which input.
  Laid BY PROGRAM, IN A SANDBOX (cutbox-rows.mjs): the forced cells as the released guide's own fill.sh prints them over the translation aa96e6eb122a9530… (all of the seat's roots in one cut). By AI agents, Wed Nov 11 2026. No macro, syntax, notation, axiom, sorry.
-/
import Derived.Test.YtgklcfnjahomjaaChecked
import GoSem.Claim
import GoSem.ClaimJoined
import GoSem.ClaimMapViews
import Derived.JoinedTies
import Derived.KernelRfl
namespace Go.Proofs.Ytgklcfnjahomjaa
/- THE CELL 'sum', in the pinned program and in every row, IS THE sha256 OF THE DUMP (.gsa) THAT YtgklcfnjahomjaaProg.lean LOADS. Nothing in Lean hashes anything: it is a label: what it is worth is what the hold of that sum in a sandbox is worth. -/
noncomputable def Try.pinned : Pinned := { name := "ytgklcfnjahomjaa", sum := "aa96e6eb122a95306e833eadb9ce19c26694be8696ac68cb244bf7353caecad6", checked := Try.checked }
namespace Rows
def none {H : Type} : Left H := { results := [], args := [] }

/-- 'shadowbooklaw20.AggGroups': WHATEVER THE INPUT: true; the input reads as it did. -/
def aggGroupsSpec : ChangeSpec := { name := "aggGroups", fn := fun _ => fun
  | [d1, d2, d3, d4] => { results := [.lit (.bool true)], args := [d1, d2, d3, d4] }
  | _ => none }
def aggGroupsRow : OpenClaim := { program := "ytgklcfnjahomjaa", sum := "aa96e6eb122a95306e833eadb9ce19c26694be8696ac68cb244bf7353caecad6", func := "shadowbook/shadowbooklaw20.AggGroups", spec := "aggGroups", unfollowed := true, recurses := true, apart := false }
def AggGroupsSaid : Prop := aggGroupsRow.holds Try.pinned (OpenSpec.ofChange aggGroupsSpec)

/-- ITS FALSE NEIGHBOUR: 'it returns false'. Refute it at one input. -/
def aggGroupsWrong : ChangeSpec := { name := "aggGroups", fn := fun _ => fun
  | [d1, d2, d3, d4] => { results := [.lit (.bool false)], args := [d1, d2, d3, d4] }
  | _ => none }
def AggGroupsWrongFalsely : Prop := aggGroupsRow.holds Try.pinned (OpenSpec.ofChange aggGroupsWrong)

/-- 'shadowbooklaw20.AggTotals': WHATEVER THE INPUT: true; the input reads as it did. -/
def aggTotalsSpec : ChangeSpec := { name := "aggTotals", fn := fun _ => fun
  | [d1, d2, d3, d4] => { results := [.lit (.bool true)], args := [d1, d2, d3, d4] }
  | _ => none }
def aggTotalsRow : OpenClaim := { program := "ytgklcfnjahomjaa", sum := "aa96e6eb122a95306e833eadb9ce19c26694be8696ac68cb244bf7353caecad6", func := "shadowbook/shadowbooklaw20.AggTotals", spec := "aggTotals", unfollowed := true, recurses := true, apart := false }
def AggTotalsSaid : Prop := aggTotalsRow.holds Try.pinned (OpenSpec.ofChange aggTotalsSpec)

/-- ITS FALSE NEIGHBOUR: 'it returns false'. Refute it at one input. -/
def aggTotalsWrong : ChangeSpec := { name := "aggTotals", fn := fun _ => fun
  | [d1, d2, d3, d4] => { results := [.lit (.bool false)], args := [d1, d2, d3, d4] }
  | _ => none }
def AggTotalsWrongFalsely : Prop := aggTotalsRow.holds Try.pinned (OpenSpec.ofChange aggTotalsWrong)

/-- 'shadowbooklaw20.AggCalls': WHATEVER THE INPUT: true; the input reads as it did. -/
def aggCallsSpec : ChangeSpec := { name := "aggCalls", fn := fun _ => fun
  | [d1, d2, d3, d4] => { results := [.lit (.bool true)], args := [d1, d2, d3, d4] }
  | _ => none }
def aggCallsRow : OpenClaim := { program := "ytgklcfnjahomjaa", sum := "aa96e6eb122a95306e833eadb9ce19c26694be8696ac68cb244bf7353caecad6", func := "shadowbook/shadowbooklaw20.AggCalls", spec := "aggCalls", unfollowed := true, recurses := true, apart := false }
def AggCallsSaid : Prop := aggCallsRow.holds Try.pinned (OpenSpec.ofChange aggCallsSpec)

/-- ITS FALSE NEIGHBOUR: 'it returns false'. Refute it at one input. -/
def aggCallsWrong : ChangeSpec := { name := "aggCalls", fn := fun _ => fun
  | [d1, d2, d3, d4] => { results := [.lit (.bool false)], args := [d1, d2, d3, d4] }
  | _ => none }
def AggCallsWrongFalsely : Prop := aggCallsRow.holds Try.pinned (OpenSpec.ofChange aggCallsWrong)

/-- 'shadowbooklaw20.AggNames': WHATEVER THE INPUT: true; the input reads as it did. -/
def aggNamesSpec : ChangeSpec := { name := "aggNames", fn := fun _ => fun
  | [] => { results := [.lit (.bool true)], args := [] }
  | _ => none }
def aggNamesRow : OpenClaim := { program := "ytgklcfnjahomjaa", sum := "aa96e6eb122a95306e833eadb9ce19c26694be8696ac68cb244bf7353caecad6", func := "shadowbook/shadowbooklaw20.AggNames", spec := "aggNames", unfollowed := true, recurses := true, apart := false }
def AggNamesSaid : Prop := aggNamesRow.holds Try.pinned (OpenSpec.ofChange aggNamesSpec)

/-- ITS FALSE NEIGHBOUR: 'it returns false'. Refute it at one input. -/
def aggNamesWrong : ChangeSpec := { name := "aggNames", fn := fun _ => fun
  | [] => { results := [.lit (.bool false)], args := [] }
  | _ => none }
def AggNamesWrongFalsely : Prop := aggNamesRow.holds Try.pinned (OpenSpec.ofChange aggNamesWrong)

/-- 'shadowbooklaw20.AggNil': WHATEVER THE INPUT: true; the input reads as it did. -/
def aggNilSpec : ChangeSpec := { name := "aggNil", fn := fun _ => fun
  | [d] => { results := [.lit (.bool true)], args := [d] }
  | _ => none }
def aggNilRow : OpenClaim := { program := "ytgklcfnjahomjaa", sum := "aa96e6eb122a95306e833eadb9ce19c26694be8696ac68cb244bf7353caecad6", func := "shadowbook/shadowbooklaw20.AggNil", spec := "aggNil", unfollowed := true, recurses := true, apart := false }
def AggNilSaid : Prop := aggNilRow.holds Try.pinned (OpenSpec.ofChange aggNilSpec)

/-- ITS FALSE NEIGHBOUR: 'it returns false'. Refute it at one input. -/
def aggNilWrong : ChangeSpec := { name := "aggNil", fn := fun _ => fun
  | [d] => { results := [.lit (.bool false)], args := [d] }
  | _ => none }
def AggNilWrongFalsely : Prop := aggNilRow.holds Try.pinned (OpenSpec.ofChange aggNilWrong)

/-- 'shadowbooklaw20.AggMerges': WHATEVER THE INPUT: true; the input reads as it did. -/
def aggMergesSpec : ChangeSpec := { name := "aggMerges", fn := fun _ => fun
  | [d1, d2, d3, d4, d5] => { results := [.lit (.bool true)], args := [d1, d2, d3, d4, d5] }
  | _ => none }
def aggMergesRow : OpenClaim := { program := "ytgklcfnjahomjaa", sum := "aa96e6eb122a95306e833eadb9ce19c26694be8696ac68cb244bf7353caecad6", func := "shadowbook/shadowbooklaw20.AggMerges", spec := "aggMerges", unfollowed := true, recurses := true, apart := false }
def AggMergesSaid : Prop := aggMergesRow.holds Try.pinned (OpenSpec.ofChange aggMergesSpec)

/-- ITS FALSE NEIGHBOUR: 'it returns false'. Refute it at one input. -/
def aggMergesWrong : ChangeSpec := { name := "aggMerges", fn := fun _ => fun
  | [d1, d2, d3, d4, d5] => { results := [.lit (.bool false)], args := [d1, d2, d3, d4, d5] }
  | _ => none }
def AggMergesWrongFalsely : Prop := aggMergesRow.holds Try.pinned (OpenSpec.ofChange aggMergesWrong)

/- THE SECOND FORM. 'bulk': how many values and letters a reading holds, each counted each time it is reached (what is shared counts as often as it is met; a slice's spare places count too). A statement '..UptoSaid' is the law's where the arguments, and the package variables that the reading takes, are together of bulk at most 1048576: NARROWER than '..Said'. Prove '..Said' where nothing that the law and all that it calls make is longer than what came in: it says more and counts as full. Else prove '..UptoSaid'. A law counts once. -/
mutual
def uptoBulk {H : Type} : DataW H → Nat
  | .lit (.string bytes) => bytes.length + 1
  | .lit _ => 1
  | .nil => 1
  | .ptr d => uptoBulk d + 1
  | .slice elems spare => uptoBulkAll elems + uptoBulkAll spare + 1
  | .agg parts => uptoBulkAll parts + 1
  | .iface _ d => uptoBulk d + 1
  | .map entries => uptoBulkEntries entries + 1
  | .held _ => 1
def uptoBulkAll {H : Type} : List (DataW H) → Nat
  | [] => 0
  | d :: r => uptoBulk d + uptoBulkAll r
def uptoBulkEntries {H : Type} : List (Lit × DataW H) → Nat
  | [] => 0
  | x :: r => uptoBulkEntry x + uptoBulkEntries r
def uptoBulkEntry {H : Type} : Lit × DataW H → Nat
  | (.string bytes, d) => bytes.length + uptoBulk d + 1
  | (_, d) => uptoBulk d + 1
 end
def uptoSmall : (H : Type) → List (DataW H) → Bool := fun _ ds => decide (uptoBulkAll ds ≤ 1048576)
def OpenSpec.upto (s : _root_.Go.ChangeSpec) : _root_.Go.OpenSpec := { _root_.Go.OpenSpec.ofChange s with cond := some uptoSmall }

/-- 'shadowbooklaw20.AggGroups', WHERE WHAT IT READS IS OF BULK AT MOST 1048576: true; the input reads as it did. -/
def aggGroupsUptoRow : OpenClaim := { program := "ytgklcfnjahomjaa", sum := "aa96e6eb122a95306e833eadb9ce19c26694be8696ac68cb244bf7353caecad6", func := "shadowbook/shadowbooklaw20.AggGroups", spec := "aggGroups", unfollowed := true, recurses := true, apart := false, narrowed := true }
def AggGroupsUptoSaid : Prop := aggGroupsUptoRow.holds Try.pinned (OpenSpec.upto aggGroupsSpec)

/-- 'shadowbooklaw20.AggTotals', WHERE WHAT IT READS IS OF BULK AT MOST 1048576: true; the input reads as it did. -/
def aggTotalsUptoRow : OpenClaim := { program := "ytgklcfnjahomjaa", sum := "aa96e6eb122a95306e833eadb9ce19c26694be8696ac68cb244bf7353caecad6", func := "shadowbook/shadowbooklaw20.AggTotals", spec := "aggTotals", unfollowed := true, recurses := true, apart := false, narrowed := true }
def AggTotalsUptoSaid : Prop := aggTotalsUptoRow.holds Try.pinned (OpenSpec.upto aggTotalsSpec)

/-- 'shadowbooklaw20.AggCalls', WHERE WHAT IT READS IS OF BULK AT MOST 1048576: true; the input reads as it did. -/
def aggCallsUptoRow : OpenClaim := { program := "ytgklcfnjahomjaa", sum := "aa96e6eb122a95306e833eadb9ce19c26694be8696ac68cb244bf7353caecad6", func := "shadowbook/shadowbooklaw20.AggCalls", spec := "aggCalls", unfollowed := true, recurses := true, apart := false, narrowed := true }
def AggCallsUptoSaid : Prop := aggCallsUptoRow.holds Try.pinned (OpenSpec.upto aggCallsSpec)

/-- 'shadowbooklaw20.AggNames', WHERE WHAT IT READS IS OF BULK AT MOST 1048576: true; the input reads as it did. -/
def aggNamesUptoRow : OpenClaim := { program := "ytgklcfnjahomjaa", sum := "aa96e6eb122a95306e833eadb9ce19c26694be8696ac68cb244bf7353caecad6", func := "shadowbook/shadowbooklaw20.AggNames", spec := "aggNames", unfollowed := true, recurses := true, apart := false, narrowed := true }
def AggNamesUptoSaid : Prop := aggNamesUptoRow.holds Try.pinned (OpenSpec.upto aggNamesSpec)

/-- 'shadowbooklaw20.AggNil', WHERE WHAT IT READS IS OF BULK AT MOST 1048576: true; the input reads as it did. -/
def aggNilUptoRow : OpenClaim := { program := "ytgklcfnjahomjaa", sum := "aa96e6eb122a95306e833eadb9ce19c26694be8696ac68cb244bf7353caecad6", func := "shadowbook/shadowbooklaw20.AggNil", spec := "aggNil", unfollowed := true, recurses := true, apart := false, narrowed := true }
def AggNilUptoSaid : Prop := aggNilUptoRow.holds Try.pinned (OpenSpec.upto aggNilSpec)

/-- 'shadowbooklaw20.AggMerges', WHERE WHAT IT READS IS OF BULK AT MOST 1048576: true; the input reads as it did. -/
def aggMergesUptoRow : OpenClaim := { program := "ytgklcfnjahomjaa", sum := "aa96e6eb122a95306e833eadb9ce19c26694be8696ac68cb244bf7353caecad6", func := "shadowbook/shadowbooklaw20.AggMerges", spec := "aggMerges", unfollowed := true, recurses := true, apart := false, narrowed := true }
def AggMergesUptoSaid : Prop := aggMergesUptoRow.holds Try.pinned (OpenSpec.upto aggMergesSpec)

end Rows
end Go.Proofs.Ytgklcfnjahomjaa
