/-
  No cell of these rows narrows 'for every input' (looked for: loops, veiled, ifaces, maps, wideKeys, modest, calm, conditions, laid).
  DERIVED. THE GIVEN ROWS OF THIS SEAT. 6 by the template 'for every input the law returns true; each argument reads behind the call as it read before'; 0 by the template 'total and deterministic' (their statements: YtlbmlncdjkdoaaaGreatTotals.lean).
  GIVEN WITH THE SEED: the statements are not yours to turn. If you find one false, say at which input.
  Laid BY PROGRAM, IN A SANDBOX (cutbox-rows.mjs): the forced cells as the released guide's own fill.sh prints them over the translation 4687da6096755f3b… (all of the seat's roots in one cut). By AI agents, Wed Nov 11 2026. No macro, syntax, notation, axiom, sorry.
-/
import Derived.Test.YtlbmlncdjkdoaaaGreatChecked
import GoSem.Claim
import GoSem.ClaimJoined
import GoSem.ClaimMapViews
import Derived.JoinedTies
import Derived.KernelRfl
namespace Go.Proofs.YtlbmlncdjkdoaaaGreat
/- THE CELL 'sum', in the pinned program and in every row, IS THE sha256 OF THE DUMP (.gsa) THAT YtlbmlncdjkdoaaaGreatProg.lean LOADS. Nothing in Lean hashes anything: it is a label: what it is worth is what the hold of that sum in a sandbox is worth. -/
noncomputable def Tryz.pinned : Pinned := { name := "ytlbmlncdjkdoaaagreat", sum := "4687da6096755f3b993c59983322ffaff461bb3c224df3bb4b86a8fc3c09a0c2", checked := Tryz.checked }
namespace Rows
def none {H : Type} : Left H := { results := [], args := [] }

/-- 'shadowbooklaw22.GroupTaken': WHATEVER THE INPUT: true; the input reads as it did. -/
def groupTakenSpec : ChangeSpec := { name := "groupTaken", fn := fun _ => fun
  | [d1, d2, d3, d4, d5] => { results := [.lit (.bool true)], args := [d1, d2, d3, d4, d5] }
  | _ => none }
def groupTakenRow : OpenClaim := { program := "ytlbmlncdjkdoaaagreat", sum := "4687da6096755f3b993c59983322ffaff461bb3c224df3bb4b86a8fc3c09a0c2", func := "shadowbook/shadowbooklaw22.GroupTaken", spec := "groupTaken", inPlace := ["internal/bytealg.abigen_runtime_cmpstring"], unfollowed := true, recurses := true, apart := false }
def GroupTakenSaid : Prop := groupTakenRow.holds Tryz.pinned (OpenSpec.ofChange groupTakenSpec)

/-- ITS FALSE NEIGHBOUR: 'it returns false'. Refute it at one input. -/
def groupTakenWrong : ChangeSpec := { name := "groupTaken", fn := fun _ => fun
  | [d1, d2, d3, d4, d5] => { results := [.lit (.bool false)], args := [d1, d2, d3, d4, d5] }
  | _ => none }
def GroupTakenWrongFalsely : Prop := groupTakenRow.holds Tryz.pinned (OpenSpec.ofChange groupTakenWrong)

/-- 'shadowbooklaw22.GroupCuts': WHATEVER THE INPUT: true; the input reads as it did. -/
def groupCutsSpec : ChangeSpec := { name := "groupCuts", fn := fun _ => fun
  | [d1, d2, d3] => { results := [.lit (.bool true)], args := [d1, d2, d3] }
  | _ => none }
def groupCutsRow : OpenClaim := { program := "ytlbmlncdjkdoaaagreat", sum := "4687da6096755f3b993c59983322ffaff461bb3c224df3bb4b86a8fc3c09a0c2", func := "shadowbook/shadowbooklaw22.GroupCuts", spec := "groupCuts", inPlace := ["internal/bytealg.abigen_runtime_cmpstring"], unfollowed := true, recurses := true, apart := false }
def GroupCutsSaid : Prop := groupCutsRow.holds Tryz.pinned (OpenSpec.ofChange groupCutsSpec)

/-- ITS FALSE NEIGHBOUR: 'it returns false'. Refute it at one input. -/
def groupCutsWrong : ChangeSpec := { name := "groupCuts", fn := fun _ => fun
  | [d1, d2, d3] => { results := [.lit (.bool false)], args := [d1, d2, d3] }
  | _ => none }
def GroupCutsWrongFalsely : Prop := groupCutsRow.holds Tryz.pinned (OpenSpec.ofChange groupCutsWrong)

/-- 'shadowbooklaw22.GroupJoins': WHATEVER THE INPUT: true; the input reads as it did. -/
def groupJoinsSpec : ChangeSpec := { name := "groupJoins", fn := fun _ => fun
  | [d1, d2, d3] => { results := [.lit (.bool true)], args := [d1, d2, d3] }
  | _ => none }
def groupJoinsRow : OpenClaim := { program := "ytlbmlncdjkdoaaagreat", sum := "4687da6096755f3b993c59983322ffaff461bb3c224df3bb4b86a8fc3c09a0c2", func := "shadowbook/shadowbooklaw22.GroupJoins", spec := "groupJoins", inPlace := ["internal/bytealg.abigen_runtime_cmpstring"], unfollowed := true, recurses := true, apart := false }
def GroupJoinsSaid : Prop := groupJoinsRow.holds Tryz.pinned (OpenSpec.ofChange groupJoinsSpec)

/-- ITS FALSE NEIGHBOUR: 'it returns false'. Refute it at one input. -/
def groupJoinsWrong : ChangeSpec := { name := "groupJoins", fn := fun _ => fun
  | [d1, d2, d3] => { results := [.lit (.bool false)], args := [d1, d2, d3] }
  | _ => none }
def GroupJoinsWrongFalsely : Prop := groupJoinsRow.holds Tryz.pinned (OpenSpec.ofChange groupJoinsWrong)

/-- 'shadowbooklaw22.GroupBack': WHATEVER THE INPUT: true; the input reads as it did. -/
def groupBackSpec : ChangeSpec := { name := "groupBack", fn := fun _ => fun
  | [d1, d2, d3] => { results := [.lit (.bool true)], args := [d1, d2, d3] }
  | _ => none }
def groupBackRow : OpenClaim := { program := "ytlbmlncdjkdoaaagreat", sum := "4687da6096755f3b993c59983322ffaff461bb3c224df3bb4b86a8fc3c09a0c2", func := "shadowbook/shadowbooklaw22.GroupBack", spec := "groupBack", inPlace := ["internal/bytealg.abigen_runtime_cmpstring"], unfollowed := true, recurses := true, apart := false }
def GroupBackSaid : Prop := groupBackRow.holds Tryz.pinned (OpenSpec.ofChange groupBackSpec)

/-- ITS FALSE NEIGHBOUR: 'it returns false'. Refute it at one input. -/
def groupBackWrong : ChangeSpec := { name := "groupBack", fn := fun _ => fun
  | [d1, d2, d3] => { results := [.lit (.bool false)], args := [d1, d2, d3] }
  | _ => none }
def GroupBackWrongFalsely : Prop := groupBackRow.holds Tryz.pinned (OpenSpec.ofChange groupBackWrong)

/-- 'shadowbooklaw22.GroupCalls': WHATEVER THE INPUT: true; the input reads as it did. -/
def groupCallsSpec : ChangeSpec := { name := "groupCalls", fn := fun _ => fun
  | [d1, d2, d3, d4, d5] => { results := [.lit (.bool true)], args := [d1, d2, d3, d4, d5] }
  | _ => none }
def groupCallsRow : OpenClaim := { program := "ytlbmlncdjkdoaaagreat", sum := "4687da6096755f3b993c59983322ffaff461bb3c224df3bb4b86a8fc3c09a0c2", func := "shadowbook/shadowbooklaw22.GroupCalls", spec := "groupCalls", inPlace := ["internal/bytealg.abigen_runtime_cmpstring"], unfollowed := true, recurses := true, apart := false }
def GroupCallsSaid : Prop := groupCallsRow.holds Tryz.pinned (OpenSpec.ofChange groupCallsSpec)

/-- ITS FALSE NEIGHBOUR: 'it returns false'. Refute it at one input. -/
def groupCallsWrong : ChangeSpec := { name := "groupCalls", fn := fun _ => fun
  | [d1, d2, d3, d4, d5] => { results := [.lit (.bool false)], args := [d1, d2, d3, d4, d5] }
  | _ => none }
def GroupCallsWrongFalsely : Prop := groupCallsRow.holds Tryz.pinned (OpenSpec.ofChange groupCallsWrong)

/-- 'shadowbooklaw22.GroupNames': WHATEVER THE INPUT: true; the input reads as it did. -/
def groupNamesSpec : ChangeSpec := { name := "groupNames", fn := fun _ => fun
  | [] => { results := [.lit (.bool true)], args := [] }
  | _ => none }
def groupNamesRow : OpenClaim := { program := "ytlbmlncdjkdoaaagreat", sum := "4687da6096755f3b993c59983322ffaff461bb3c224df3bb4b86a8fc3c09a0c2", func := "shadowbook/shadowbooklaw22.GroupNames", spec := "groupNames", inPlace := ["internal/bytealg.abigen_runtime_cmpstring"], unfollowed := true, recurses := true, apart := false }
def GroupNamesSaid : Prop := groupNamesRow.holds Tryz.pinned (OpenSpec.ofChange groupNamesSpec)

/-- ITS FALSE NEIGHBOUR: 'it returns false'. Refute it at one input. -/
def groupNamesWrong : ChangeSpec := { name := "groupNames", fn := fun _ => fun
  | [] => { results := [.lit (.bool false)], args := [] }
  | _ => none }
def GroupNamesWrongFalsely : Prop := groupNamesRow.holds Tryz.pinned (OpenSpec.ofChange groupNamesWrong)

/- THE SECOND FORM. 'bulk': how many values and letters a reading holds, each counted each time it is reached (what is shared counts as often as it is met; a slice's spare places count too). A statement '..UptoSaid' is the law's where the arguments, and the package variables that the reading takes, are together of bulk at most 1048576: NARROWER than '..Said'. Prove '..Said' where nothing that the law and all that it calls make is longer than what came in: it says more and counts as full. Else prove '..UptoSaid'. A law counts once. -/
mutual
def uptoBulk {H : Type} : DataW H → Nat
  | .lit (.string bytes) => bytes.length + 1
  | .lit _ => 1
  | .nil => 1
  | .ptr d => uptoBulk d + 1
  | .slice elems spare => uptoBulkAll elems + uptoBulkAll spare + 1
  | .agg parts => uptoBulkAll parts + 1
  | .iface _ d => uptoBulk d + 1
  | .map entries => uptoBulkEntries entries + 1
  | .held _ => 1
def uptoBulkAll {H : Type} : List (DataW H) → Nat
  | [] => 0
  | d :: r => uptoBulk d + uptoBulkAll r
def uptoBulkEntries {H : Type} : List (Lit × DataW H) → Nat
  | [] => 0
  | x :: r => uptoBulkEntry x + uptoBulkEntries r
def uptoBulkEntry {H : Type} : Lit × DataW H → Nat
  | (.string bytes, d) => bytes.length + uptoBulk d + 1
  | (_, d) => uptoBulk d + 1
 end
def uptoSmall : (H : Type) → List (DataW H) → Bool := fun _ ds => decide (uptoBulkAll ds ≤ 1048576)
def OpenSpec.upto (s : _root_.Go.ChangeSpec) : _root_.Go.OpenSpec := { _root_.Go.OpenSpec.ofChange s with cond := some uptoSmall }

/-- 'shadowbooklaw22.GroupTaken', WHERE WHAT IT READS IS OF BULK AT MOST 1048576: true; the input reads as it did. -/
def groupTakenUptoRow : OpenClaim := { program := "ytlbmlncdjkdoaaagreat", sum := "4687da6096755f3b993c59983322ffaff461bb3c224df3bb4b86a8fc3c09a0c2", func := "shadowbook/shadowbooklaw22.GroupTaken", spec := "groupTaken", inPlace := ["internal/bytealg.abigen_runtime_cmpstring"], unfollowed := true, recurses := true, apart := false, narrowed := true }
def GroupTakenUptoSaid : Prop := groupTakenUptoRow.holds Tryz.pinned (OpenSpec.upto groupTakenSpec)

/-- 'shadowbooklaw22.GroupCuts', WHERE WHAT IT READS IS OF BULK AT MOST 1048576: true; the input reads as it did. -/
def groupCutsUptoRow : OpenClaim := { program := "ytlbmlncdjkdoaaagreat", sum := "4687da6096755f3b993c59983322ffaff461bb3c224df3bb4b86a8fc3c09a0c2", func := "shadowbook/shadowbooklaw22.GroupCuts", spec := "groupCuts", inPlace := ["internal/bytealg.abigen_runtime_cmpstring"], unfollowed := true, recurses := true, apart := false, narrowed := true }
def GroupCutsUptoSaid : Prop := groupCutsUptoRow.holds Tryz.pinned (OpenSpec.upto groupCutsSpec)

/-- 'shadowbooklaw22.GroupJoins', WHERE WHAT IT READS IS OF BULK AT MOST 1048576: true; the input reads as it did. -/
def groupJoinsUptoRow : OpenClaim := { program := "ytlbmlncdjkdoaaagreat", sum := "4687da6096755f3b993c59983322ffaff461bb3c224df3bb4b86a8fc3c09a0c2", func := "shadowbook/shadowbooklaw22.GroupJoins", spec := "groupJoins", inPlace := ["internal/bytealg.abigen_runtime_cmpstring"], unfollowed := true, recurses := true, apart := false, narrowed := true }
def GroupJoinsUptoSaid : Prop := groupJoinsUptoRow.holds Tryz.pinned (OpenSpec.upto groupJoinsSpec)

/-- 'shadowbooklaw22.GroupBack', WHERE WHAT IT READS IS OF BULK AT MOST 1048576: true; the input reads as it did. -/
def groupBackUptoRow : OpenClaim := { program := "ytlbmlncdjkdoaaagreat", sum := "4687da6096755f3b993c59983322ffaff461bb3c224df3bb4b86a8fc3c09a0c2", func := "shadowbook/shadowbooklaw22.GroupBack", spec := "groupBack", inPlace := ["internal/bytealg.abigen_runtime_cmpstring"], unfollowed := true, recurses := true, apart := false, narrowed := true }
def GroupBackUptoSaid : Prop := groupBackUptoRow.holds Tryz.pinned (OpenSpec.upto groupBackSpec)

/-- 'shadowbooklaw22.GroupCalls', WHERE WHAT IT READS IS OF BULK AT MOST 1048576: true; the input reads as it did. -/
def groupCallsUptoRow : OpenClaim := { program := "ytlbmlncdjkdoaaagreat", sum := "4687da6096755f3b993c59983322ffaff461bb3c224df3bb4b86a8fc3c09a0c2", func := "shadowbook/shadowbooklaw22.GroupCalls", spec := "groupCalls", inPlace := ["internal/bytealg.abigen_runtime_cmpstring"], unfollowed := true, recurses := true, apart := false, narrowed := true }
def GroupCallsUptoSaid : Prop := groupCallsUptoRow.holds Tryz.pinned (OpenSpec.upto groupCallsSpec)

/-- 'shadowbooklaw22.GroupNames', WHERE WHAT IT READS IS OF BULK AT MOST 1048576: true; the input reads as it did. -/
def groupNamesUptoRow : OpenClaim := { program := "ytlbmlncdjkdoaaagreat", sum := "4687da6096755f3b993c59983322ffaff461bb3c224df3bb4b86a8fc3c09a0c2", func := "shadowbook/shadowbooklaw22.GroupNames", spec := "groupNames", inPlace := ["internal/bytealg.abigen_runtime_cmpstring"], unfollowed := true, recurses := true, apart := false, narrowed := true }
def GroupNamesUptoSaid : Prop := groupNamesUptoRow.holds Tryz.pinned (OpenSpec.upto groupNamesSpec)

end Rows
end Go.Proofs.YtlbmlncdjkdoaaaGreat
