/-
  No cell of these rows narrows 'for every input' (looked for: loops, veiled, ifaces, maps, wideKeys, modest, calm, conditions, laid).
  DERIVED. THE GIVEN ROWS OF THIS SEAT. 6 by the template 'for every input the law returns true; each argument reads behind the call as it read before'; 0 by the template 'total and deterministic' (their statements: YtghelamfaaakcaaGreatTotals.lean).
  GIVEN WITH THE SEED: the statements are not yours to turn. If you find one false, say at which input.
  Laid BY PROGRAM, IN A SANDBOX (cutbox-rows.mjs): the forced cells as the released guide's own fill.sh prints them over the translation 10c759fba0d80b72… (all of the seat's roots in one cut). By AI agents, Wed Nov 11 2026. No macro, syntax, notation, axiom, sorry.
-/
import Derived.Test.YtghelamfaaakcaaGreatChecked
import GoSem.Claim
import GoSem.ClaimJoined
import GoSem.ClaimMapViews
import Derived.JoinedTies
import Derived.KernelRfl
namespace Go.Proofs.YtghelamfaaakcaaGreat
/- THE CELL 'sum', in the pinned program and in every row, IS THE sha256 OF THE DUMP (.gsa) THAT YtghelamfaaakcaaGreatProg.lean LOADS. Nothing in Lean hashes anything: it is a label: what it is worth is what the hold of that sum in a sandbox is worth. -/
noncomputable def Tryz.pinned : Pinned := { name := "ytghelamfaaakcaagreat", sum := "10c759fba0d80b722cf90fcf4ff85c4f96df1514e037ce055da0ff5e7f727879", checked := Tryz.checked }
namespace Rows
def none {H : Type} : Left H := { results := [], args := [] }

/-- 'shadowbooklaw10.SegmentNulls': WHATEVER THE INPUT: true; the input reads as it did. -/
def segmentNullsSpec : ChangeSpec := { name := "segmentNulls", fn := fun _ => fun
  | [d1, d2, d3] => { results := [.lit (.bool true)], args := [d1, d2, d3] }
  | _ => none }
def segmentNullsRow : OpenClaim := { program := "ytghelamfaaakcaagreat", sum := "10c759fba0d80b722cf90fcf4ff85c4f96df1514e037ce055da0ff5e7f727879", func := "shadowbook/shadowbooklaw10.SegmentNulls", spec := "segmentNulls", inPlace := ["internal/bytealg.abigen_runtime_cmpstring"], unfollowed := true, recurses := true, apart := false }
def SegmentNullsSaid : Prop := segmentNullsRow.holds Tryz.pinned (OpenSpec.ofChange segmentNullsSpec)

/-- ITS FALSE NEIGHBOUR: 'it returns false'. Refute it at one input. -/
def segmentNullsWrong : ChangeSpec := { name := "segmentNulls", fn := fun _ => fun
  | [d1, d2, d3] => { results := [.lit (.bool false)], args := [d1, d2, d3] }
  | _ => none }
def SegmentNullsWrongFalsely : Prop := segmentNullsRow.holds Tryz.pinned (OpenSpec.ofChange segmentNullsWrong)

/-- 'shadowbooklaw10.SegmentZone': WHATEVER THE INPUT: true; the input reads as it did. -/
def segmentZoneSpec : ChangeSpec := { name := "segmentZone", fn := fun _ => fun
  | [d1, d2, d3, d4] => { results := [.lit (.bool true)], args := [d1, d2, d3, d4] }
  | _ => none }
def segmentZoneRow : OpenClaim := { program := "ytghelamfaaakcaagreat", sum := "10c759fba0d80b722cf90fcf4ff85c4f96df1514e037ce055da0ff5e7f727879", func := "shadowbook/shadowbooklaw10.SegmentZone", spec := "segmentZone", inPlace := ["internal/bytealg.abigen_runtime_cmpstring"], unfollowed := true, recurses := true, apart := false }
def SegmentZoneSaid : Prop := segmentZoneRow.holds Tryz.pinned (OpenSpec.ofChange segmentZoneSpec)

/-- ITS FALSE NEIGHBOUR: 'it returns false'. Refute it at one input. -/
def segmentZoneWrong : ChangeSpec := { name := "segmentZone", fn := fun _ => fun
  | [d1, d2, d3, d4] => { results := [.lit (.bool false)], args := [d1, d2, d3, d4] }
  | _ => none }
def SegmentZoneWrongFalsely : Prop := segmentZoneRow.holds Tryz.pinned (OpenSpec.ofChange segmentZoneWrong)

/-- 'shadowbooklaw10.SegmentOrder': WHATEVER THE INPUT: true; the input reads as it did. -/
def segmentOrderSpec : ChangeSpec := { name := "segmentOrder", fn := fun _ => fun
  | [d1, d2, d3, d4] => { results := [.lit (.bool true)], args := [d1, d2, d3, d4] }
  | _ => none }
def segmentOrderRow : OpenClaim := { program := "ytghelamfaaakcaagreat", sum := "10c759fba0d80b722cf90fcf4ff85c4f96df1514e037ce055da0ff5e7f727879", func := "shadowbook/shadowbooklaw10.SegmentOrder", spec := "segmentOrder", inPlace := ["internal/bytealg.abigen_runtime_cmpstring"], unfollowed := true, recurses := true, apart := false }
def SegmentOrderSaid : Prop := segmentOrderRow.holds Tryz.pinned (OpenSpec.ofChange segmentOrderSpec)

/-- ITS FALSE NEIGHBOUR: 'it returns false'. Refute it at one input. -/
def segmentOrderWrong : ChangeSpec := { name := "segmentOrder", fn := fun _ => fun
  | [d1, d2, d3, d4] => { results := [.lit (.bool false)], args := [d1, d2, d3, d4] }
  | _ => none }
def SegmentOrderWrongFalsely : Prop := segmentOrderRow.holds Tryz.pinned (OpenSpec.ofChange segmentOrderWrong)

/-- 'shadowbooklaw10.SegmentNames': WHATEVER THE INPUT: true; the input reads as it did. -/
def segmentNamesSpec : ChangeSpec := { name := "segmentNames", fn := fun _ => fun
  | [] => { results := [.lit (.bool true)], args := [] }
  | _ => none }
def segmentNamesRow : OpenClaim := { program := "ytghelamfaaakcaagreat", sum := "10c759fba0d80b722cf90fcf4ff85c4f96df1514e037ce055da0ff5e7f727879", func := "shadowbook/shadowbooklaw10.SegmentNames", spec := "segmentNames", inPlace := ["internal/bytealg.abigen_runtime_cmpstring"], unfollowed := true, recurses := true, apart := false }
def SegmentNamesSaid : Prop := segmentNamesRow.holds Tryz.pinned (OpenSpec.ofChange segmentNamesSpec)

/-- ITS FALSE NEIGHBOUR: 'it returns false'. Refute it at one input. -/
def segmentNamesWrong : ChangeSpec := { name := "segmentNames", fn := fun _ => fun
  | [] => { results := [.lit (.bool false)], args := [] }
  | _ => none }
def SegmentNamesWrongFalsely : Prop := segmentNamesRow.holds Tryz.pinned (OpenSpec.ofChange segmentNamesWrong)

/-- 'shadowbooklaw10.SegmentCalls': WHATEVER THE INPUT: true; the input reads as it did. -/
def segmentCallsSpec : ChangeSpec := { name := "segmentCalls", fn := fun _ => fun
  | [d1, d2, d3] => { results := [.lit (.bool true)], args := [d1, d2, d3] }
  | _ => none }
def segmentCallsRow : OpenClaim := { program := "ytghelamfaaakcaagreat", sum := "10c759fba0d80b722cf90fcf4ff85c4f96df1514e037ce055da0ff5e7f727879", func := "shadowbook/shadowbooklaw10.SegmentCalls", spec := "segmentCalls", inPlace := ["internal/bytealg.abigen_runtime_cmpstring"], unfollowed := true, recurses := true, apart := false }
def SegmentCallsSaid : Prop := segmentCallsRow.holds Tryz.pinned (OpenSpec.ofChange segmentCallsSpec)

/-- ITS FALSE NEIGHBOUR: 'it returns false'. Refute it at one input. -/
def segmentCallsWrong : ChangeSpec := { name := "segmentCalls", fn := fun _ => fun
  | [d1, d2, d3] => { results := [.lit (.bool false)], args := [d1, d2, d3] }
  | _ => none }
def SegmentCallsWrongFalsely : Prop := segmentCallsRow.holds Tryz.pinned (OpenSpec.ofChange segmentCallsWrong)

/-- 'shadowbooklaw10.SegmentBack': WHATEVER THE INPUT: true; the input reads as it did. -/
def segmentBackSpec : ChangeSpec := { name := "segmentBack", fn := fun _ => fun
  | [d1, d2, d3] => { results := [.lit (.bool true)], args := [d1, d2, d3] }
  | _ => none }
def segmentBackRow : OpenClaim := { program := "ytghelamfaaakcaagreat", sum := "10c759fba0d80b722cf90fcf4ff85c4f96df1514e037ce055da0ff5e7f727879", func := "shadowbook/shadowbooklaw10.SegmentBack", spec := "segmentBack", inPlace := ["internal/bytealg.abigen_runtime_cmpstring"], unfollowed := true, recurses := true, apart := false }
def SegmentBackSaid : Prop := segmentBackRow.holds Tryz.pinned (OpenSpec.ofChange segmentBackSpec)

/-- ITS FALSE NEIGHBOUR: 'it returns false'. Refute it at one input. -/
def segmentBackWrong : ChangeSpec := { name := "segmentBack", fn := fun _ => fun
  | [d1, d2, d3] => { results := [.lit (.bool false)], args := [d1, d2, d3] }
  | _ => none }
def SegmentBackWrongFalsely : Prop := segmentBackRow.holds Tryz.pinned (OpenSpec.ofChange segmentBackWrong)

/- THE SECOND FORM. 'bulk': how many values and letters a reading holds, each counted each time it is reached (what is shared counts as often as it is met; a slice's spare places count too). A statement '..UptoSaid' is the law's where the arguments, and the package variables that the reading takes, are together of bulk at most 1048576: NARROWER than '..Said'. Prove '..Said' where nothing that the law and all that it calls make is longer than what came in: it says more and counts as full. Else prove '..UptoSaid'. A law counts once. -/
mutual
def uptoBulk {H : Type} : DataW H → Nat
  | .lit (.string bytes) => bytes.length + 1
  | .lit _ => 1
  | .nil => 1
  | .ptr d => uptoBulk d + 1
  | .slice elems spare => uptoBulkAll elems + uptoBulkAll spare + 1
  | .agg parts => uptoBulkAll parts + 1
  | .iface _ d => uptoBulk d + 1
  | .map entries => uptoBulkEntries entries + 1
  | .held _ => 1
def uptoBulkAll {H : Type} : List (DataW H) → Nat
  | [] => 0
  | d :: r => uptoBulk d + uptoBulkAll r
def uptoBulkEntries {H : Type} : List (Lit × DataW H) → Nat
  | [] => 0
  | x :: r => uptoBulkEntry x + uptoBulkEntries r
def uptoBulkEntry {H : Type} : Lit × DataW H → Nat
  | (.string bytes, d) => bytes.length + uptoBulk d + 1
  | (_, d) => uptoBulk d + 1
 end
def uptoSmall : (H : Type) → List (DataW H) → Bool := fun _ ds => decide (uptoBulkAll ds ≤ 1048576)
def OpenSpec.upto (s : _root_.Go.ChangeSpec) : _root_.Go.OpenSpec := { _root_.Go.OpenSpec.ofChange s with cond := some uptoSmall }

/-- 'shadowbooklaw10.SegmentNulls', WHERE WHAT IT READS IS OF BULK AT MOST 1048576: true; the input reads as it did. -/
def segmentNullsUptoRow : OpenClaim := { program := "ytghelamfaaakcaagreat", sum := "10c759fba0d80b722cf90fcf4ff85c4f96df1514e037ce055da0ff5e7f727879", func := "shadowbook/shadowbooklaw10.SegmentNulls", spec := "segmentNulls", inPlace := ["internal/bytealg.abigen_runtime_cmpstring"], unfollowed := true, recurses := true, apart := false, narrowed := true }
def SegmentNullsUptoSaid : Prop := segmentNullsUptoRow.holds Tryz.pinned (OpenSpec.upto segmentNullsSpec)

/-- 'shadowbooklaw10.SegmentZone', WHERE WHAT IT READS IS OF BULK AT MOST 1048576: true; the input reads as it did. -/
def segmentZoneUptoRow : OpenClaim := { program := "ytghelamfaaakcaagreat", sum := "10c759fba0d80b722cf90fcf4ff85c4f96df1514e037ce055da0ff5e7f727879", func := "shadowbook/shadowbooklaw10.SegmentZone", spec := "segmentZone", inPlace := ["internal/bytealg.abigen_runtime_cmpstring"], unfollowed := true, recurses := true, apart := false, narrowed := true }
def SegmentZoneUptoSaid : Prop := segmentZoneUptoRow.holds Tryz.pinned (OpenSpec.upto segmentZoneSpec)

/-- 'shadowbooklaw10.SegmentOrder', WHERE WHAT IT READS IS OF BULK AT MOST 1048576: true; the input reads as it did. -/
def segmentOrderUptoRow : OpenClaim := { program := "ytghelamfaaakcaagreat", sum := "10c759fba0d80b722cf90fcf4ff85c4f96df1514e037ce055da0ff5e7f727879", func := "shadowbook/shadowbooklaw10.SegmentOrder", spec := "segmentOrder", inPlace := ["internal/bytealg.abigen_runtime_cmpstring"], unfollowed := true, recurses := true, apart := false, narrowed := true }
def SegmentOrderUptoSaid : Prop := segmentOrderUptoRow.holds Tryz.pinned (OpenSpec.upto segmentOrderSpec)

/-- 'shadowbooklaw10.SegmentNames', WHERE WHAT IT READS IS OF BULK AT MOST 1048576: true; the input reads as it did. -/
def segmentNamesUptoRow : OpenClaim := { program := "ytghelamfaaakcaagreat", sum := "10c759fba0d80b722cf90fcf4ff85c4f96df1514e037ce055da0ff5e7f727879", func := "shadowbook/shadowbooklaw10.SegmentNames", spec := "segmentNames", inPlace := ["internal/bytealg.abigen_runtime_cmpstring"], unfollowed := true, recurses := true, apart := false, narrowed := true }
def SegmentNamesUptoSaid : Prop := segmentNamesUptoRow.holds Tryz.pinned (OpenSpec.upto segmentNamesSpec)

/-- 'shadowbooklaw10.SegmentCalls', WHERE WHAT IT READS IS OF BULK AT MOST 1048576: true; the input reads as it did. -/
def segmentCallsUptoRow : OpenClaim := { program := "ytghelamfaaakcaagreat", sum := "10c759fba0d80b722cf90fcf4ff85c4f96df1514e037ce055da0ff5e7f727879", func := "shadowbook/shadowbooklaw10.SegmentCalls", spec := "segmentCalls", inPlace := ["internal/bytealg.abigen_runtime_cmpstring"], unfollowed := true, recurses := true, apart := false, narrowed := true }
def SegmentCallsUptoSaid : Prop := segmentCallsUptoRow.holds Tryz.pinned (OpenSpec.upto segmentCallsSpec)

/-- 'shadowbooklaw10.SegmentBack', WHERE WHAT IT READS IS OF BULK AT MOST 1048576: true; the input reads as it did. -/
def segmentBackUptoRow : OpenClaim := { program := "ytghelamfaaakcaagreat", sum := "10c759fba0d80b722cf90fcf4ff85c4f96df1514e037ce055da0ff5e7f727879", func := "shadowbook/shadowbooklaw10.SegmentBack", spec := "segmentBack", inPlace := ["internal/bytealg.abigen_runtime_cmpstring"], unfollowed := true, recurses := true, apart := false, narrowed := true }
def SegmentBackUptoSaid : Prop := segmentBackUptoRow.holds Tryz.pinned (OpenSpec.upto segmentBackSpec)

end Rows
end Go.Proofs.YtghelamfaaakcaaGreat
