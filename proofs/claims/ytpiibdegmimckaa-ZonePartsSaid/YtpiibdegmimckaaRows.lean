/-
  No cell of these rows narrows 'for every input' (looked for: loops, veiled, ifaces, maps, wideKeys, modest, calm, conditions, laid).
  DERIVED. THE GIVEN ROWS OF THIS SEAT. 5 by the template 'for every input the law returns true; each argument reads behind the call as it read before'; 0 by the template 'total and deterministic' (their statements: YtpiibdegmimckaaTotals.lean).
  GIVEN WITH THE SEED: the statements are not yours to turn. If you find one false, say at which input.
  Laid BY PROGRAM, IN A SANDBOX (cutbox-rows.mjs): the forced cells as the released guide's own fill.sh prints them over the translation 2cf8bd0c9269da23… (all of the seat's roots in one cut). By AI agents, Wed Nov 11 2026. No macro, syntax, notation, axiom, sorry.
-/
import Derived.Test.YtpiibdegmimckaaChecked
import GoSem.Claim
import GoSem.ClaimJoined
import GoSem.ClaimMapViews
import Derived.JoinedTies
import Derived.KernelRfl
namespace Go.Proofs.Ytpiibdegmimckaa
/- THE CELL 'sum', in the pinned program and in every row, IS THE sha256 OF THE DUMP (.gsa) THAT YtpiibdegmimckaaProg.lean LOADS. Nothing in Lean hashes anything: it is a label: what it is worth is what the hold of that sum in a sandbox is worth. -/
noncomputable def Try.pinned : Pinned := { name := "ytpiibdegmimckaa", sum := "2cf8bd0c9269da23813cc7ee0b12949c7ef9c67c63205640f9ce5003543d98c8", checked := Try.checked }
namespace Rows
def none {H : Type} : Left H := { results := [], args := [] }

/-- 'shadowbooklaw09.ZoneJoin': WHATEVER THE INPUT: true; the input reads as it did. -/
def zoneJoinSpec : ChangeSpec := { name := "zoneJoin", fn := fun _ => fun
  | [d1, d2, d3] => { results := [.lit (.bool true)], args := [d1, d2, d3] }
  | _ => none }
def zoneJoinRow : OpenClaim := { program := "ytpiibdegmimckaa", sum := "2cf8bd0c9269da23813cc7ee0b12949c7ef9c67c63205640f9ce5003543d98c8", func := "shadowbook/shadowbooklaw09.ZoneJoin", spec := "zoneJoin", inPlace := ["internal/bytealg.abigen_runtime_cmpstring"], unfollowed := true, recurses := true, apart := false }
def ZoneJoinSaid : Prop := zoneJoinRow.holds Try.pinned (OpenSpec.ofChange zoneJoinSpec)

/-- ITS FALSE NEIGHBOUR: 'it returns false'. Refute it at one input. -/
def zoneJoinWrong : ChangeSpec := { name := "zoneJoin", fn := fun _ => fun
  | [d1, d2, d3] => { results := [.lit (.bool false)], args := [d1, d2, d3] }
  | _ => none }
def ZoneJoinWrongFalsely : Prop := zoneJoinRow.holds Try.pinned (OpenSpec.ofChange zoneJoinWrong)

/-- 'shadowbooklaw09.ZoneParts': WHATEVER THE INPUT: true; the input reads as it did. -/
def zonePartsSpec : ChangeSpec := { name := "zoneParts", fn := fun _ => fun
  | [d1, d2, d3, d4, d5] => { results := [.lit (.bool true)], args := [d1, d2, d3, d4, d5] }
  | _ => none }
def zonePartsRow : OpenClaim := { program := "ytpiibdegmimckaa", sum := "2cf8bd0c9269da23813cc7ee0b12949c7ef9c67c63205640f9ce5003543d98c8", func := "shadowbook/shadowbooklaw09.ZoneParts", spec := "zoneParts", inPlace := ["internal/bytealg.abigen_runtime_cmpstring"], unfollowed := true, recurses := true, apart := false }
def ZonePartsSaid : Prop := zonePartsRow.holds Try.pinned (OpenSpec.ofChange zonePartsSpec)

/-- ITS FALSE NEIGHBOUR: 'it returns false'. Refute it at one input. -/
def zonePartsWrong : ChangeSpec := { name := "zoneParts", fn := fun _ => fun
  | [d1, d2, d3, d4, d5] => { results := [.lit (.bool false)], args := [d1, d2, d3, d4, d5] }
  | _ => none }
def ZonePartsWrongFalsely : Prop := zonePartsRow.holds Try.pinned (OpenSpec.ofChange zonePartsWrong)

/-- 'shadowbooklaw09.ZoneOrder': WHATEVER THE INPUT: true; the input reads as it did. -/
def zoneOrderSpec : ChangeSpec := { name := "zoneOrder", fn := fun _ => fun
  | [d1, d2, d3] => { results := [.lit (.bool true)], args := [d1, d2, d3] }
  | _ => none }
def zoneOrderRow : OpenClaim := { program := "ytpiibdegmimckaa", sum := "2cf8bd0c9269da23813cc7ee0b12949c7ef9c67c63205640f9ce5003543d98c8", func := "shadowbook/shadowbooklaw09.ZoneOrder", spec := "zoneOrder", inPlace := ["internal/bytealg.abigen_runtime_cmpstring"], unfollowed := true, recurses := true, apart := false }
def ZoneOrderSaid : Prop := zoneOrderRow.holds Try.pinned (OpenSpec.ofChange zoneOrderSpec)

/-- ITS FALSE NEIGHBOUR: 'it returns false'. Refute it at one input. -/
def zoneOrderWrong : ChangeSpec := { name := "zoneOrder", fn := fun _ => fun
  | [d1, d2, d3] => { results := [.lit (.bool false)], args := [d1, d2, d3] }
  | _ => none }
def ZoneOrderWrongFalsely : Prop := zoneOrderRow.holds Try.pinned (OpenSpec.ofChange zoneOrderWrong)

/-- 'shadowbooklaw09.ZoneNames': WHATEVER THE INPUT: true; the input reads as it did. -/
def zoneNamesSpec : ChangeSpec := { name := "zoneNames", fn := fun _ => fun
  | [] => { results := [.lit (.bool true)], args := [] }
  | _ => none }
def zoneNamesRow : OpenClaim := { program := "ytpiibdegmimckaa", sum := "2cf8bd0c9269da23813cc7ee0b12949c7ef9c67c63205640f9ce5003543d98c8", func := "shadowbook/shadowbooklaw09.ZoneNames", spec := "zoneNames", inPlace := ["internal/bytealg.abigen_runtime_cmpstring"], unfollowed := true, recurses := true, apart := false }
def ZoneNamesSaid : Prop := zoneNamesRow.holds Try.pinned (OpenSpec.ofChange zoneNamesSpec)

/-- ITS FALSE NEIGHBOUR: 'it returns false'. Refute it at one input. -/
def zoneNamesWrong : ChangeSpec := { name := "zoneNames", fn := fun _ => fun
  | [] => { results := [.lit (.bool false)], args := [] }
  | _ => none }
def ZoneNamesWrongFalsely : Prop := zoneNamesRow.holds Try.pinned (OpenSpec.ofChange zoneNamesWrong)

/-- 'shadowbooklaw09.ZoneMay': WHATEVER THE INPUT: true; the input reads as it did. -/
def zoneMaySpec : ChangeSpec := { name := "zoneMay", fn := fun _ => fun
  | [d1, d2, d3, d4] => { results := [.lit (.bool true)], args := [d1, d2, d3, d4] }
  | _ => none }
def zoneMayRow : OpenClaim := { program := "ytpiibdegmimckaa", sum := "2cf8bd0c9269da23813cc7ee0b12949c7ef9c67c63205640f9ce5003543d98c8", func := "shadowbook/shadowbooklaw09.ZoneMay", spec := "zoneMay", inPlace := ["internal/bytealg.abigen_runtime_cmpstring"], unfollowed := true, recurses := true, apart := false }
def ZoneMaySaid : Prop := zoneMayRow.holds Try.pinned (OpenSpec.ofChange zoneMaySpec)

/-- ITS FALSE NEIGHBOUR: 'it returns false'. Refute it at one input. -/
def zoneMayWrong : ChangeSpec := { name := "zoneMay", fn := fun _ => fun
  | [d1, d2, d3, d4] => { results := [.lit (.bool false)], args := [d1, d2, d3, d4] }
  | _ => none }
def ZoneMayWrongFalsely : Prop := zoneMayRow.holds Try.pinned (OpenSpec.ofChange zoneMayWrong)

/- THE SECOND FORM. 'bulk': how many values and letters a reading holds, each counted each time it is reached (what is shared counts as often as it is met; a slice's spare places count too). A statement '..UptoSaid' is the law's where the arguments, and the package variables that the reading takes, are together of bulk at most 1048576: NARROWER than '..Said'. Prove '..Said' where nothing that the law and all that it calls make is longer than what came in: it says more and counts as full. Else prove '..UptoSaid'. A law counts once. -/
mutual
def uptoBulk {H : Type} : DataW H → Nat
  | .lit (.string bytes) => bytes.length + 1
  | .lit _ => 1
  | .nil => 1
  | .ptr d => uptoBulk d + 1
  | .slice elems spare => uptoBulkAll elems + uptoBulkAll spare + 1
  | .agg parts => uptoBulkAll parts + 1
  | .iface _ d => uptoBulk d + 1
  | .map entries => uptoBulkEntries entries + 1
  | .held _ => 1
def uptoBulkAll {H : Type} : List (DataW H) → Nat
  | [] => 0
  | d :: r => uptoBulk d + uptoBulkAll r
def uptoBulkEntries {H : Type} : List (Lit × DataW H) → Nat
  | [] => 0
  | x :: r => uptoBulkEntry x + uptoBulkEntries r
def uptoBulkEntry {H : Type} : Lit × DataW H → Nat
  | (.string bytes, d) => bytes.length + uptoBulk d + 1
  | (_, d) => uptoBulk d + 1
 end
def uptoSmall : (H : Type) → List (DataW H) → Bool := fun _ ds => decide (uptoBulkAll ds ≤ 1048576)
def OpenSpec.upto (s : _root_.Go.ChangeSpec) : _root_.Go.OpenSpec := { _root_.Go.OpenSpec.ofChange s with cond := some uptoSmall }

/-- 'shadowbooklaw09.ZoneJoin', WHERE WHAT IT READS IS OF BULK AT MOST 1048576: true; the input reads as it did. -/
def zoneJoinUptoRow : OpenClaim := { program := "ytpiibdegmimckaa", sum := "2cf8bd0c9269da23813cc7ee0b12949c7ef9c67c63205640f9ce5003543d98c8", func := "shadowbook/shadowbooklaw09.ZoneJoin", spec := "zoneJoin", inPlace := ["internal/bytealg.abigen_runtime_cmpstring"], unfollowed := true, recurses := true, apart := false, narrowed := true }
def ZoneJoinUptoSaid : Prop := zoneJoinUptoRow.holds Try.pinned (OpenSpec.upto zoneJoinSpec)

/-- 'shadowbooklaw09.ZoneParts', WHERE WHAT IT READS IS OF BULK AT MOST 1048576: true; the input reads as it did. -/
def zonePartsUptoRow : OpenClaim := { program := "ytpiibdegmimckaa", sum := "2cf8bd0c9269da23813cc7ee0b12949c7ef9c67c63205640f9ce5003543d98c8", func := "shadowbook/shadowbooklaw09.ZoneParts", spec := "zoneParts", inPlace := ["internal/bytealg.abigen_runtime_cmpstring"], unfollowed := true, recurses := true, apart := false, narrowed := true }
def ZonePartsUptoSaid : Prop := zonePartsUptoRow.holds Try.pinned (OpenSpec.upto zonePartsSpec)

/-- 'shadowbooklaw09.ZoneOrder', WHERE WHAT IT READS IS OF BULK AT MOST 1048576: true; the input reads as it did. -/
def zoneOrderUptoRow : OpenClaim := { program := "ytpiibdegmimckaa", sum := "2cf8bd0c9269da23813cc7ee0b12949c7ef9c67c63205640f9ce5003543d98c8", func := "shadowbook/shadowbooklaw09.ZoneOrder", spec := "zoneOrder", inPlace := ["internal/bytealg.abigen_runtime_cmpstring"], unfollowed := true, recurses := true, apart := false, narrowed := true }
def ZoneOrderUptoSaid : Prop := zoneOrderUptoRow.holds Try.pinned (OpenSpec.upto zoneOrderSpec)

/-- 'shadowbooklaw09.ZoneNames', WHERE WHAT IT READS IS OF BULK AT MOST 1048576: true; the input reads as it did. -/
def zoneNamesUptoRow : OpenClaim := { program := "ytpiibdegmimckaa", sum := "2cf8bd0c9269da23813cc7ee0b12949c7ef9c67c63205640f9ce5003543d98c8", func := "shadowbook/shadowbooklaw09.ZoneNames", spec := "zoneNames", inPlace := ["internal/bytealg.abigen_runtime_cmpstring"], unfollowed := true, recurses := true, apart := false, narrowed := true }
def ZoneNamesUptoSaid : Prop := zoneNamesUptoRow.holds Try.pinned (OpenSpec.upto zoneNamesSpec)

/-- 'shadowbooklaw09.ZoneMay', WHERE WHAT IT READS IS OF BULK AT MOST 1048576: true; the input reads as it did. -/
def zoneMayUptoRow : OpenClaim := { program := "ytpiibdegmimckaa", sum := "2cf8bd0c9269da23813cc7ee0b12949c7ef9c67c63205640f9ce5003543d98c8", func := "shadowbook/shadowbooklaw09.ZoneMay", spec := "zoneMay", inPlace := ["internal/bytealg.abigen_runtime_cmpstring"], unfollowed := true, recurses := true, apart := false, narrowed := true }
def ZoneMayUptoSaid : Prop := zoneMayUptoRow.holds Try.pinned (OpenSpec.upto zoneMaySpec)

end Rows
end Go.Proofs.Ytpiibdegmimckaa
