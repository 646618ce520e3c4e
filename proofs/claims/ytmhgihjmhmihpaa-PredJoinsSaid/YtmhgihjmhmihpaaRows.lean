/-
  No cell of these rows narrows 'for every input' (looked for: loops, veiled, ifaces, maps, wideKeys, modest, calm, conditions, laid).
  DERIVED. THE GIVEN ROWS OF THIS SEAT. 4 by the template 'for every input the law returns true; each argument reads behind the call as it read before'; 0 by the template 'total and deterministic' (their statements: YtmhgihjmhmihpaaTotals.lean).
  GIVEN WITH THE SEED: the statements are not yours to turn. If you find one false, say at which input.
  Laid BY PROGRAM, IN A SANDBOX (cutbox-rows.mjs): the forced cells as the released guide's own fill.sh prints them over the translation e5de43850622c1de… (all of the seat's roots in one cut). By AI agents, Wed Nov 11 2026. No macro, syntax, notation, axiom, sorry.
-/
import Derived.Test.YtmhgihjmhmihpaaChecked
import GoSem.Claim
import GoSem.ClaimJoined
import GoSem.ClaimMapViews
import Derived.JoinedTies
import Derived.KernelRfl
namespace Go.Proofs.Ytmhgihjmhmihpaa
/- THE CELL 'sum', in the pinned program and in every row, IS THE sha256 OF THE DUMP (.gsa) THAT YtmhgihjmhmihpaaProg.lean LOADS. Nothing in Lean hashes anything: it is a label: what it is worth is what the hold of that sum in a sandbox is worth. -/
noncomputable def Try.pinned : Pinned := { name := "ytmhgihjmhmihpaa", sum := "e5de43850622c1ded7d8f5f3eeec9c5f9aeacbfedbbfa2f47fd757076d898ec5", checked := Try.checked }
namespace Rows
def none {H : Type} : Left H := { results := [], args := [] }

/-- 'shadowbooklaw18.PredLogic': WHATEVER THE INPUT: true; the input reads as it did. -/
def predLogicSpec : ChangeSpec := { name := "predLogic", fn := fun _ => fun
  | [d1, d2, d3] => { results := [.lit (.bool true)], args := [d1, d2, d3] }
  | _ => none }
def predLogicRow : OpenClaim := { program := "ytmhgihjmhmihpaa", sum := "e5de43850622c1ded7d8f5f3eeec9c5f9aeacbfedbbfa2f47fd757076d898ec5", func := "shadowbook/shadowbooklaw18.PredLogic", spec := "predLogic", inPlace := ["internal/bytealg.abigen_runtime_cmpstring"], unfollowed := true, recurses := true, apart := false }
def PredLogicSaid : Prop := predLogicRow.holds Try.pinned (OpenSpec.ofChange predLogicSpec)

/-- ITS FALSE NEIGHBOUR: 'it returns false'. Refute it at one input. -/
def predLogicWrong : ChangeSpec := { name := "predLogic", fn := fun _ => fun
  | [d1, d2, d3] => { results := [.lit (.bool false)], args := [d1, d2, d3] }
  | _ => none }
def PredLogicWrongFalsely : Prop := predLogicRow.holds Try.pinned (OpenSpec.ofChange predLogicWrong)

/-- 'shadowbooklaw18.PredPrunes': WHATEVER THE INPUT: true; the input reads as it did. -/
def predPrunesSpec : ChangeSpec := { name := "predPrunes", fn := fun _ => fun
  | [d1, d2, d3, d4] => { results := [.lit (.bool true)], args := [d1, d2, d3, d4] }
  | _ => none }
def predPrunesRow : OpenClaim := { program := "ytmhgihjmhmihpaa", sum := "e5de43850622c1ded7d8f5f3eeec9c5f9aeacbfedbbfa2f47fd757076d898ec5", func := "shadowbook/shadowbooklaw18.PredPrunes", spec := "predPrunes", inPlace := ["internal/bytealg.abigen_runtime_cmpstring"], unfollowed := true, recurses := true, apart := false }
def PredPrunesSaid : Prop := predPrunesRow.holds Try.pinned (OpenSpec.ofChange predPrunesSpec)

/-- ITS FALSE NEIGHBOUR: 'it returns false'. Refute it at one input. -/
def predPrunesWrong : ChangeSpec := { name := "predPrunes", fn := fun _ => fun
  | [d1, d2, d3, d4] => { results := [.lit (.bool false)], args := [d1, d2, d3, d4] }
  | _ => none }
def PredPrunesWrongFalsely : Prop := predPrunesRow.holds Try.pinned (OpenSpec.ofChange predPrunesWrong)

/-- 'shadowbooklaw18.PredThree': WHATEVER THE INPUT: true; the input reads as it did. -/
def predThreeSpec : ChangeSpec := { name := "predThree", fn := fun _ => fun
  | [d1, d2, d3, d4] => { results := [.lit (.bool true)], args := [d1, d2, d3, d4] }
  | _ => none }
def predThreeRow : OpenClaim := { program := "ytmhgihjmhmihpaa", sum := "e5de43850622c1ded7d8f5f3eeec9c5f9aeacbfedbbfa2f47fd757076d898ec5", func := "shadowbook/shadowbooklaw18.PredThree", spec := "predThree", inPlace := ["internal/bytealg.abigen_runtime_cmpstring"], unfollowed := true, recurses := true, apart := false }
def PredThreeSaid : Prop := predThreeRow.holds Try.pinned (OpenSpec.ofChange predThreeSpec)

/-- ITS FALSE NEIGHBOUR: 'it returns false'. Refute it at one input. -/
def predThreeWrong : ChangeSpec := { name := "predThree", fn := fun _ => fun
  | [d1, d2, d3, d4] => { results := [.lit (.bool false)], args := [d1, d2, d3, d4] }
  | _ => none }
def PredThreeWrongFalsely : Prop := predThreeRow.holds Try.pinned (OpenSpec.ofChange predThreeWrong)

/-- 'shadowbooklaw18.PredJoins': WHATEVER THE INPUT: true; the input reads as it did. -/
def predJoinsSpec : ChangeSpec := { name := "predJoins", fn := fun _ => fun
  | [d1, d2, d3, d4] => { results := [.lit (.bool true)], args := [d1, d2, d3, d4] }
  | _ => none }
def predJoinsRow : OpenClaim := { program := "ytmhgihjmhmihpaa", sum := "e5de43850622c1ded7d8f5f3eeec9c5f9aeacbfedbbfa2f47fd757076d898ec5", func := "shadowbook/shadowbooklaw18.PredJoins", spec := "predJoins", inPlace := ["internal/bytealg.abigen_runtime_cmpstring"], unfollowed := true, recurses := true, apart := false }
def PredJoinsSaid : Prop := predJoinsRow.holds Try.pinned (OpenSpec.ofChange predJoinsSpec)

/-- ITS FALSE NEIGHBOUR: 'it returns false'. Refute it at one input. -/
def predJoinsWrong : ChangeSpec := { name := "predJoins", fn := fun _ => fun
  | [d1, d2, d3, d4] => { results := [.lit (.bool false)], args := [d1, d2, d3, d4] }
  | _ => none }
def PredJoinsWrongFalsely : Prop := predJoinsRow.holds Try.pinned (OpenSpec.ofChange predJoinsWrong)

/- THE SECOND FORM. 'bulk': how many values and letters a reading holds, each counted each time it is reached (what is shared counts as often as it is met; a slice's spare places count too). A statement '..UptoSaid' is the law's where the arguments, and the package variables that the reading takes, are together of bulk at most 1048576: NARROWER than '..Said'. Prove '..Said' where nothing that the law and all that it calls make is longer than what came in: it says more and counts as full. Else prove '..UptoSaid'. A law counts once. -/
mutual
def uptoBulk {H : Type} : DataW H → Nat
  | .lit (.string bytes) => bytes.length + 1
  | .lit _ => 1
  | .nil => 1
  | .ptr d => uptoBulk d + 1
  | .slice elems spare => uptoBulkAll elems + uptoBulkAll spare + 1
  | .agg parts => uptoBulkAll parts + 1
  | .iface _ d => uptoBulk d + 1
  | .map entries => uptoBulkEntries entries + 1
  | .held _ => 1
def uptoBulkAll {H : Type} : List (DataW H) → Nat
  | [] => 0
  | d :: r => uptoBulk d + uptoBulkAll r
def uptoBulkEntries {H : Type} : List (Lit × DataW H) → Nat
  | [] => 0
  | x :: r => uptoBulkEntry x + uptoBulkEntries r
def uptoBulkEntry {H : Type} : Lit × DataW H → Nat
  | (.string bytes, d) => bytes.length + uptoBulk d + 1
  | (_, d) => uptoBulk d + 1
 end
def uptoSmall : (H : Type) → List (DataW H) → Bool := fun _ ds => decide (uptoBulkAll ds ≤ 1048576)
def OpenSpec.upto (s : _root_.Go.ChangeSpec) : _root_.Go.OpenSpec := { _root_.Go.OpenSpec.ofChange s with cond := some uptoSmall }

/-- 'shadowbooklaw18.PredLogic', WHERE WHAT IT READS IS OF BULK AT MOST 1048576: true; the input reads as it did. -/
def predLogicUptoRow : OpenClaim := { program := "ytmhgihjmhmihpaa", sum := "e5de43850622c1ded7d8f5f3eeec9c5f9aeacbfedbbfa2f47fd757076d898ec5", func := "shadowbook/shadowbooklaw18.PredLogic", spec := "predLogic", inPlace := ["internal/bytealg.abigen_runtime_cmpstring"], unfollowed := true, recurses := true, apart := false, narrowed := true }
def PredLogicUptoSaid : Prop := predLogicUptoRow.holds Try.pinned (OpenSpec.upto predLogicSpec)

/-- 'shadowbooklaw18.PredPrunes', WHERE WHAT IT READS IS OF BULK AT MOST 1048576: true; the input reads as it did. -/
def predPrunesUptoRow : OpenClaim := { program := "ytmhgihjmhmihpaa", sum := "e5de43850622c1ded7d8f5f3eeec9c5f9aeacbfedbbfa2f47fd757076d898ec5", func := "shadowbook/shadowbooklaw18.PredPrunes", spec := "predPrunes", inPlace := ["internal/bytealg.abigen_runtime_cmpstring"], unfollowed := true, recurses := true, apart := false, narrowed := true }
def PredPrunesUptoSaid : Prop := predPrunesUptoRow.holds Try.pinned (OpenSpec.upto predPrunesSpec)

/-- 'shadowbooklaw18.PredThree', WHERE WHAT IT READS IS OF BULK AT MOST 1048576: true; the input reads as it did. -/
def predThreeUptoRow : OpenClaim := { program := "ytmhgihjmhmihpaa", sum := "e5de43850622c1ded7d8f5f3eeec9c5f9aeacbfedbbfa2f47fd757076d898ec5", func := "shadowbook/shadowbooklaw18.PredThree", spec := "predThree", inPlace := ["internal/bytealg.abigen_runtime_cmpstring"], unfollowed := true, recurses := true, apart := false, narrowed := true }
def PredThreeUptoSaid : Prop := predThreeUptoRow.holds Try.pinned (OpenSpec.upto predThreeSpec)

/-- 'shadowbooklaw18.PredJoins', WHERE WHAT IT READS IS OF BULK AT MOST 1048576: true; the input reads as it did. -/
def predJoinsUptoRow : OpenClaim := { program := "ytmhgihjmhmihpaa", sum := "e5de43850622c1ded7d8f5f3eeec9c5f9aeacbfedbbfa2f47fd757076d898ec5", func := "shadowbook/shadowbooklaw18.PredJoins", spec := "predJoins", inPlace := ["internal/bytealg.abigen_runtime_cmpstring"], unfollowed := true, recurses := true, apart := false, narrowed := true }
def PredJoinsUptoSaid : Prop := predJoinsUptoRow.holds Try.pinned (OpenSpec.upto predJoinsSpec)

end Rows
end Go.Proofs.Ytmhgihjmhmihpaa
