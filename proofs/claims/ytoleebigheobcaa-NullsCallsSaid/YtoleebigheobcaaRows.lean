/-
  No cell of these rows narrows 'for every input' (looked for: loops, veiled, ifaces, maps, wideKeys, modest, calm, conditions, laid).
  DERIVED. THE GIVEN ROWS OF THIS SEAT. 5 by the template 'for every input the law returns true; each argument reads behind the call as it read before'; 0 by the template 'total and deterministic' (their statements: YtoleebigheobcaaTotals.lean).
  GIVEN WITH THE SEED: the statements are not yours to turn. If you find one false, say at which input.
  Laid BY PROGRAM, IN A SANDBOX (cutbox-rows.mjs): the forced cells as the released guide's own fill.sh prints them over the translation 7f3ca3627d642cb1… (all of the seat's roots in one cut). By AI agents, Wed Nov 11 2026. No macro, syntax, notation, axiom, sorry.
-/
import Derived.Test.YtoleebigheobcaaChecked
import GoSem.Claim
import GoSem.ClaimJoined
import GoSem.ClaimMapViews
import Derived.JoinedTies
import Derived.KernelRfl
namespace Go.Proofs.Ytoleebigheobcaa
/- THE CELL 'sum', in the pinned program and in every row, IS THE sha256 OF THE DUMP (.gsa) THAT YtoleebigheobcaaProg.lean LOADS. Nothing in Lean hashes anything: it is a label: what it is worth is what the hold of that sum in a sandbox is worth. -/
noncomputable def Try.pinned : Pinned := { name := "ytoleebigheobcaa", sum := "7f3ca3627d642cb1cf0ee51501b45551569f613d0fa9bf7c489159f3794c2e48", checked := Try.checked }
namespace Rows
def none {H : Type} : Left H := { results := [], args := [] }

/-- 'shadowbooklaw08.NullsSpread': WHATEVER THE INPUT: true; the input reads as it did. -/
def nullsSpreadSpec : ChangeSpec := { name := "nullsSpread", fn := fun _ => fun
  | [d] => { results := [.lit (.bool true)], args := [d] }
  | _ => none }
def nullsSpreadRow : OpenClaim := { program := "ytoleebigheobcaa", sum := "7f3ca3627d642cb1cf0ee51501b45551569f613d0fa9bf7c489159f3794c2e48", func := "shadowbook/shadowbooklaw08.NullsSpread", spec := "nullsSpread", unfollowed := true, recurses := true, apart := false }
def NullsSpreadSaid : Prop := nullsSpreadRow.holds Try.pinned (OpenSpec.ofChange nullsSpreadSpec)

/-- ITS FALSE NEIGHBOUR: 'it returns false'. Refute it at one input. -/
def nullsSpreadWrong : ChangeSpec := { name := "nullsSpread", fn := fun _ => fun
  | [d] => { results := [.lit (.bool false)], args := [d] }
  | _ => none }
def NullsSpreadWrongFalsely : Prop := nullsSpreadRow.holds Try.pinned (OpenSpec.ofChange nullsSpreadWrong)

/-- 'shadowbooklaw08.NullsTurned': WHATEVER THE INPUT: true; the input reads as it did. -/
def nullsTurnedSpec : ChangeSpec := { name := "nullsTurned", fn := fun _ => fun
  | [d] => { results := [.lit (.bool true)], args := [d] }
  | _ => none }
def nullsTurnedRow : OpenClaim := { program := "ytoleebigheobcaa", sum := "7f3ca3627d642cb1cf0ee51501b45551569f613d0fa9bf7c489159f3794c2e48", func := "shadowbook/shadowbooklaw08.NullsTurned", spec := "nullsTurned", unfollowed := true, recurses := true, apart := false }
def NullsTurnedSaid : Prop := nullsTurnedRow.holds Try.pinned (OpenSpec.ofChange nullsTurnedSpec)

/-- ITS FALSE NEIGHBOUR: 'it returns false'. Refute it at one input. -/
def nullsTurnedWrong : ChangeSpec := { name := "nullsTurned", fn := fun _ => fun
  | [d] => { results := [.lit (.bool false)], args := [d] }
  | _ => none }
def NullsTurnedWrongFalsely : Prop := nullsTurnedRow.holds Try.pinned (OpenSpec.ofChange nullsTurnedWrong)

/-- 'shadowbooklaw08.NullsBack': WHATEVER THE INPUT: true; the input reads as it did. -/
def nullsBackSpec : ChangeSpec := { name := "nullsBack", fn := fun _ => fun
  | [d1, d2] => { results := [.lit (.bool true)], args := [d1, d2] }
  | _ => none }
def nullsBackRow : OpenClaim := { program := "ytoleebigheobcaa", sum := "7f3ca3627d642cb1cf0ee51501b45551569f613d0fa9bf7c489159f3794c2e48", func := "shadowbook/shadowbooklaw08.NullsBack", spec := "nullsBack", unfollowed := true, recurses := true, apart := false }
def NullsBackSaid : Prop := nullsBackRow.holds Try.pinned (OpenSpec.ofChange nullsBackSpec)

/-- ITS FALSE NEIGHBOUR: 'it returns false'. Refute it at one input. -/
def nullsBackWrong : ChangeSpec := { name := "nullsBack", fn := fun _ => fun
  | [d1, d2] => { results := [.lit (.bool false)], args := [d1, d2] }
  | _ => none }
def NullsBackWrongFalsely : Prop := nullsBackRow.holds Try.pinned (OpenSpec.ofChange nullsBackWrong)

/-- 'shadowbooklaw08.NullsNames': WHATEVER THE INPUT: true; the input reads as it did. -/
def nullsNamesSpec : ChangeSpec := { name := "nullsNames", fn := fun _ => fun
  | [] => { results := [.lit (.bool true)], args := [] }
  | _ => none }
def nullsNamesRow : OpenClaim := { program := "ytoleebigheobcaa", sum := "7f3ca3627d642cb1cf0ee51501b45551569f613d0fa9bf7c489159f3794c2e48", func := "shadowbook/shadowbooklaw08.NullsNames", spec := "nullsNames", unfollowed := true, recurses := true, apart := false }
def NullsNamesSaid : Prop := nullsNamesRow.holds Try.pinned (OpenSpec.ofChange nullsNamesSpec)

/-- ITS FALSE NEIGHBOUR: 'it returns false'. Refute it at one input. -/
def nullsNamesWrong : ChangeSpec := { name := "nullsNames", fn := fun _ => fun
  | [] => { results := [.lit (.bool false)], args := [] }
  | _ => none }
def NullsNamesWrongFalsely : Prop := nullsNamesRow.holds Try.pinned (OpenSpec.ofChange nullsNamesWrong)

/-- 'shadowbooklaw08.NullsCalls': WHATEVER THE INPUT: true; the input reads as it did. -/
def nullsCallsSpec : ChangeSpec := { name := "nullsCalls", fn := fun _ => fun
  | [d1, d2, d3] => { results := [.lit (.bool true)], args := [d1, d2, d3] }
  | _ => none }
def nullsCallsRow : OpenClaim := { program := "ytoleebigheobcaa", sum := "7f3ca3627d642cb1cf0ee51501b45551569f613d0fa9bf7c489159f3794c2e48", func := "shadowbook/shadowbooklaw08.NullsCalls", spec := "nullsCalls", unfollowed := true, recurses := true, apart := false }
def NullsCallsSaid : Prop := nullsCallsRow.holds Try.pinned (OpenSpec.ofChange nullsCallsSpec)

/-- ITS FALSE NEIGHBOUR: 'it returns false'. Refute it at one input. -/
def nullsCallsWrong : ChangeSpec := { name := "nullsCalls", fn := fun _ => fun
  | [d1, d2, d3] => { results := [.lit (.bool false)], args := [d1, d2, d3] }
  | _ => none }
def NullsCallsWrongFalsely : Prop := nullsCallsRow.holds Try.pinned (OpenSpec.ofChange nullsCallsWrong)

/- THE SECOND FORM. 'bulk': how many values and letters a reading holds, each counted each time it is reached (what is shared counts as often as it is met; a slice's spare places count too). A statement '..UptoSaid' is the law's where the arguments, and the package variables that the reading takes, are together of bulk at most 1048576: NARROWER than '..Said'. Prove '..Said' where nothing that the law and all that it calls make is longer than what came in: it says more and counts as full. Else prove '..UptoSaid'. A law counts once. -/
mutual
def uptoBulk {H : Type} : DataW H → Nat
  | .lit (.string bytes) => bytes.length + 1
  | .lit _ => 1
  | .nil => 1
  | .ptr d => uptoBulk d + 1
  | .slice elems spare => uptoBulkAll elems + uptoBulkAll spare + 1
  | .agg parts => uptoBulkAll parts + 1
  | .iface _ d => uptoBulk d + 1
  | .map entries => uptoBulkEntries entries + 1
  | .held _ => 1
def uptoBulkAll {H : Type} : List (DataW H) → Nat
  | [] => 0
  | d :: r => uptoBulk d + uptoBulkAll r
def uptoBulkEntries {H : Type} : List (Lit × DataW H) → Nat
  | [] => 0
  | x :: r => uptoBulkEntry x + uptoBulkEntries r
def uptoBulkEntry {H : Type} : Lit × DataW H → Nat
  | (.string bytes, d) => bytes.length + uptoBulk d + 1
  | (_, d) => uptoBulk d + 1
 end
def uptoSmall : (H : Type) → List (DataW H) → Bool := fun _ ds => decide (uptoBulkAll ds ≤ 1048576)
def OpenSpec.upto (s : _root_.Go.ChangeSpec) : _root_.Go.OpenSpec := { _root_.Go.OpenSpec.ofChange s with cond := some uptoSmall }

/-- 'shadowbooklaw08.NullsSpread', WHERE WHAT IT READS IS OF BULK AT MOST 1048576: true; the input reads as it did. -/
def nullsSpreadUptoRow : OpenClaim := { program := "ytoleebigheobcaa", sum := "7f3ca3627d642cb1cf0ee51501b45551569f613d0fa9bf7c489159f3794c2e48", func := "shadowbook/shadowbooklaw08.NullsSpread", spec := "nullsSpread", unfollowed := true, recurses := true, apart := false, narrowed := true }
def NullsSpreadUptoSaid : Prop := nullsSpreadUptoRow.holds Try.pinned (OpenSpec.upto nullsSpreadSpec)

/-- 'shadowbooklaw08.NullsTurned', WHERE WHAT IT READS IS OF BULK AT MOST 1048576: true; the input reads as it did. -/
def nullsTurnedUptoRow : OpenClaim := { program := "ytoleebigheobcaa", sum := "7f3ca3627d642cb1cf0ee51501b45551569f613d0fa9bf7c489159f3794c2e48", func := "shadowbook/shadowbooklaw08.NullsTurned", spec := "nullsTurned", unfollowed := true, recurses := true, apart := false, narrowed := true }
def NullsTurnedUptoSaid : Prop := nullsTurnedUptoRow.holds Try.pinned (OpenSpec.upto nullsTurnedSpec)

/-- 'shadowbooklaw08.NullsBack', WHERE WHAT IT READS IS OF BULK AT MOST 1048576: true; the input reads as it did. -/
def nullsBackUptoRow : OpenClaim := { program := "ytoleebigheobcaa", sum := "7f3ca3627d642cb1cf0ee51501b45551569f613d0fa9bf7c489159f3794c2e48", func := "shadowbook/shadowbooklaw08.NullsBack", spec := "nullsBack", unfollowed := true, recurses := true, apart := false, narrowed := true }
def NullsBackUptoSaid : Prop := nullsBackUptoRow.holds Try.pinned (OpenSpec.upto nullsBackSpec)

/-- 'shadowbooklaw08.NullsNames', WHERE WHAT IT READS IS OF BULK AT MOST 1048576: true; the input reads as it did. -/
def nullsNamesUptoRow : OpenClaim := { program := "ytoleebigheobcaa", sum := "7f3ca3627d642cb1cf0ee51501b45551569f613d0fa9bf7c489159f3794c2e48", func := "shadowbook/shadowbooklaw08.NullsNames", spec := "nullsNames", unfollowed := true, recurses := true, apart := false, narrowed := true }
def NullsNamesUptoSaid : Prop := nullsNamesUptoRow.holds Try.pinned (OpenSpec.upto nullsNamesSpec)

/-- 'shadowbooklaw08.NullsCalls', WHERE WHAT IT READS IS OF BULK AT MOST 1048576: true; the input reads as it did. -/
def nullsCallsUptoRow : OpenClaim := { program := "ytoleebigheobcaa", sum := "7f3ca3627d642cb1cf0ee51501b45551569f613d0fa9bf7c489159f3794c2e48", func := "shadowbook/shadowbooklaw08.NullsCalls", spec := "nullsCalls", unfollowed := true, recurses := true, apart := false, narrowed := true }
def NullsCallsUptoSaid : Prop := nullsCallsUptoRow.holds Try.pinned (OpenSpec.upto nullsCallsSpec)

end Rows
end Go.Proofs.Ytoleebigheobcaa
