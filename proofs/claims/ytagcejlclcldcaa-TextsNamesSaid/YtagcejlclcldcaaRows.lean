/-
  No cell of these rows narrows 'for every input' (looked for: loops, veiled, ifaces, maps, wideKeys, modest, calm, conditions, laid).
  DERIVED. THE GIVEN ROWS OF THIS SEAT. 5 by the template 'for every input the law returns true; each argument reads behind the call as it read before'; 0 by the template 'total and deterministic' (their statements: YtagcejlclcldcaaTotals.lean).
  GIVEN WITH THE SEED: the statements are not yours to turn. If you find one false, say at which input.
  Laid BY PROGRAM, IN A SANDBOX (cutbox-rows.mjs): the forced cells as the released guide's own fill.sh prints them over the translation f9eb6d1c0ce3a4fe… (all of the seat's roots in one cut). By AI agents, Wed Nov 11 2026. No macro, syntax, notation, axiom, sorry.
-/
import Derived.Test.YtagcejlclcldcaaChecked
import GoSem.Claim
import GoSem.ClaimJoined
import GoSem.ClaimMapViews
import Derived.JoinedTies
import Derived.KernelRfl
namespace Go.Proofs.Ytagcejlclcldcaa
/- THE CELL 'sum', in the pinned program and in every row, IS THE sha256 OF THE DUMP (.gsa) THAT YtagcejlclcldcaaProg.lean LOADS. Nothing in Lean hashes anything: it is a label: what it is worth is what the hold of that sum in a sandbox is worth. -/
noncomputable def Try.pinned : Pinned := { name := "ytagcejlclcldcaa", sum := "f9eb6d1c0ce3a4fe5f52006ae2572fd45010b0684ce950bbf8425069ed46bead", checked := Try.checked }
namespace Rows
def none {H : Type} : Left H := { results := [], args := [] }

/-- 'shadowbooklaw07.TextsWords': WHATEVER THE INPUT: true; the input reads as it did. -/
def textsWordsSpec : ChangeSpec := { name := "textsWords", fn := fun _ => fun
  | [d1, d2, d3] => { results := [.lit (.bool true)], args := [d1, d2, d3] }
  | _ => none }
def textsWordsRow : OpenClaim := { program := "ytagcejlclcldcaa", sum := "f9eb6d1c0ce3a4fe5f52006ae2572fd45010b0684ce950bbf8425069ed46bead", func := "shadowbook/shadowbooklaw07.TextsWords", spec := "textsWords", unfollowed := true, recurses := true, apart := false }
def TextsWordsSaid : Prop := textsWordsRow.holds Try.pinned (OpenSpec.ofChange textsWordsSpec)

/-- ITS FALSE NEIGHBOUR: 'it returns false'. Refute it at one input. -/
def textsWordsWrong : ChangeSpec := { name := "textsWords", fn := fun _ => fun
  | [d1, d2, d3] => { results := [.lit (.bool false)], args := [d1, d2, d3] }
  | _ => none }
def TextsWordsWrongFalsely : Prop := textsWordsRow.holds Try.pinned (OpenSpec.ofChange textsWordsWrong)

/-- 'shadowbooklaw07.TextsTwice': WHATEVER THE INPUT: true; the input reads as it did. -/
def textsTwiceSpec : ChangeSpec := { name := "textsTwice", fn := fun _ => fun
  | [d] => { results := [.lit (.bool true)], args := [d] }
  | _ => none }
def textsTwiceRow : OpenClaim := { program := "ytagcejlclcldcaa", sum := "f9eb6d1c0ce3a4fe5f52006ae2572fd45010b0684ce950bbf8425069ed46bead", func := "shadowbook/shadowbooklaw07.TextsTwice", spec := "textsTwice", unfollowed := true, recurses := true, apart := false }
def TextsTwiceSaid : Prop := textsTwiceRow.holds Try.pinned (OpenSpec.ofChange textsTwiceSpec)

/-- ITS FALSE NEIGHBOUR: 'it returns false'. Refute it at one input. -/
def textsTwiceWrong : ChangeSpec := { name := "textsTwice", fn := fun _ => fun
  | [d] => { results := [.lit (.bool false)], args := [d] }
  | _ => none }
def TextsTwiceWrongFalsely : Prop := textsTwiceRow.holds Try.pinned (OpenSpec.ofChange textsTwiceWrong)

/-- 'shadowbooklaw07.TextsNames': WHATEVER THE INPUT: true; the input reads as it did. -/
def textsNamesSpec : ChangeSpec := { name := "textsNames", fn := fun _ => fun
  | [] => { results := [.lit (.bool true)], args := [] }
  | _ => none }
def textsNamesRow : OpenClaim := { program := "ytagcejlclcldcaa", sum := "f9eb6d1c0ce3a4fe5f52006ae2572fd45010b0684ce950bbf8425069ed46bead", func := "shadowbook/shadowbooklaw07.TextsNames", spec := "textsNames", unfollowed := true, recurses := true, apart := false }
def TextsNamesSaid : Prop := textsNamesRow.holds Try.pinned (OpenSpec.ofChange textsNamesSpec)

/-- ITS FALSE NEIGHBOUR: 'it returns false'. Refute it at one input. -/
def textsNamesWrong : ChangeSpec := { name := "textsNames", fn := fun _ => fun
  | [] => { results := [.lit (.bool false)], args := [] }
  | _ => none }
def TextsNamesWrongFalsely : Prop := textsNamesRow.holds Try.pinned (OpenSpec.ofChange textsNamesWrong)

/-- 'shadowbooklaw07.TextsCalls': WHATEVER THE INPUT: true; the input reads as it did. -/
def textsCallsSpec : ChangeSpec := { name := "textsCalls", fn := fun _ => fun
  | [d1, d2] => { results := [.lit (.bool true)], args := [d1, d2] }
  | _ => none }
def textsCallsRow : OpenClaim := { program := "ytagcejlclcldcaa", sum := "f9eb6d1c0ce3a4fe5f52006ae2572fd45010b0684ce950bbf8425069ed46bead", func := "shadowbook/shadowbooklaw07.TextsCalls", spec := "textsCalls", unfollowed := true, recurses := true, apart := false }
def TextsCallsSaid : Prop := textsCallsRow.holds Try.pinned (OpenSpec.ofChange textsCallsSpec)

/-- ITS FALSE NEIGHBOUR: 'it returns false'. Refute it at one input. -/
def textsCallsWrong : ChangeSpec := { name := "textsCalls", fn := fun _ => fun
  | [d1, d2] => { results := [.lit (.bool false)], args := [d1, d2] }
  | _ => none }
def TextsCallsWrongFalsely : Prop := textsCallsRow.holds Try.pinned (OpenSpec.ofChange textsCallsWrong)

/-- 'shadowbooklaw07.TextsBack': WHATEVER THE INPUT: true; the input reads as it did. -/
def textsBackSpec : ChangeSpec := { name := "textsBack", fn := fun _ => fun
  | [d1, d2] => { results := [.lit (.bool true)], args := [d1, d2] }
  | _ => none }
def textsBackRow : OpenClaim := { program := "ytagcejlclcldcaa", sum := "f9eb6d1c0ce3a4fe5f52006ae2572fd45010b0684ce950bbf8425069ed46bead", func := "shadowbook/shadowbooklaw07.TextsBack", spec := "textsBack", unfollowed := true, recurses := true, apart := false }
def TextsBackSaid : Prop := textsBackRow.holds Try.pinned (OpenSpec.ofChange textsBackSpec)

/-- ITS FALSE NEIGHBOUR: 'it returns false'. Refute it at one input. -/
def textsBackWrong : ChangeSpec := { name := "textsBack", fn := fun _ => fun
  | [d1, d2] => { results := [.lit (.bool false)], args := [d1, d2] }
  | _ => none }
def TextsBackWrongFalsely : Prop := textsBackRow.holds Try.pinned (OpenSpec.ofChange textsBackWrong)

/- THE SECOND FORM. 'bulk': how many values and letters a reading holds, each counted each time it is reached (what is shared counts as often as it is met; a slice's spare places count too). A statement '..UptoSaid' is the law's where the arguments, and the package variables that the reading takes, are together of bulk at most 1048576: NARROWER than '..Said'. Prove '..Said' where nothing that the law and all that it calls make is longer than what came in: it says more and counts as full. Else prove '..UptoSaid'. A law counts once. -/
mutual
def uptoBulk {H : Type} : DataW H → Nat
  | .lit (.string bytes) => bytes.length + 1
  | .lit _ => 1
  | .nil => 1
  | .ptr d => uptoBulk d + 1
  | .slice elems spare => uptoBulkAll elems + uptoBulkAll spare + 1
  | .agg parts => uptoBulkAll parts + 1
  | .iface _ d => uptoBulk d + 1
  | .map entries => uptoBulkEntries entries + 1
  | .held _ => 1
def uptoBulkAll {H : Type} : List (DataW H) → Nat
  | [] => 0
  | d :: r => uptoBulk d + uptoBulkAll r
def uptoBulkEntries {H : Type} : List (Lit × DataW H) → Nat
  | [] => 0
  | x :: r => uptoBulkEntry x + uptoBulkEntries r
def uptoBulkEntry {H : Type} : Lit × DataW H → Nat
  | (.string bytes, d) => bytes.length + uptoBulk d + 1
  | (_, d) => uptoBulk d + 1
 end
def uptoSmall : (H : Type) → List (DataW H) → Bool := fun _ ds => decide (uptoBulkAll ds ≤ 1048576)
def OpenSpec.upto (s : _root_.Go.ChangeSpec) : _root_.Go.OpenSpec := { _root_.Go.OpenSpec.ofChange s with cond := some uptoSmall }

/-- 'shadowbooklaw07.TextsWords', WHERE WHAT IT READS IS OF BULK AT MOST 1048576: true; the input reads as it did. -/
def textsWordsUptoRow : OpenClaim := { program := "ytagcejlclcldcaa", sum := "f9eb6d1c0ce3a4fe5f52006ae2572fd45010b0684ce950bbf8425069ed46bead", func := "shadowbook/shadowbooklaw07.TextsWords", spec := "textsWords", unfollowed := true, recurses := true, apart := false, narrowed := true }
def TextsWordsUptoSaid : Prop := textsWordsUptoRow.holds Try.pinned (OpenSpec.upto textsWordsSpec)

/-- 'shadowbooklaw07.TextsTwice', WHERE WHAT IT READS IS OF BULK AT MOST 1048576: true; the input reads as it did. -/
def textsTwiceUptoRow : OpenClaim := { program := "ytagcejlclcldcaa", sum := "f9eb6d1c0ce3a4fe5f52006ae2572fd45010b0684ce950bbf8425069ed46bead", func := "shadowbook/shadowbooklaw07.TextsTwice", spec := "textsTwice", unfollowed := true, recurses := true, apart := false, narrowed := true }
def TextsTwiceUptoSaid : Prop := textsTwiceUptoRow.holds Try.pinned (OpenSpec.upto textsTwiceSpec)

/-- 'shadowbooklaw07.TextsNames', WHERE WHAT IT READS IS OF BULK AT MOST 1048576: true; the input reads as it did. -/
def textsNamesUptoRow : OpenClaim := { program := "ytagcejlclcldcaa", sum := "f9eb6d1c0ce3a4fe5f52006ae2572fd45010b0684ce950bbf8425069ed46bead", func := "shadowbook/shadowbooklaw07.TextsNames", spec := "textsNames", unfollowed := true, recurses := true, apart := false, narrowed := true }
def TextsNamesUptoSaid : Prop := textsNamesUptoRow.holds Try.pinned (OpenSpec.upto textsNamesSpec)

/-- 'shadowbooklaw07.TextsCalls', WHERE WHAT IT READS IS OF BULK AT MOST 1048576: true; the input reads as it did. -/
def textsCallsUptoRow : OpenClaim := { program := "ytagcejlclcldcaa", sum := "f9eb6d1c0ce3a4fe5f52006ae2572fd45010b0684ce950bbf8425069ed46bead", func := "shadowbook/shadowbooklaw07.TextsCalls", spec := "textsCalls", unfollowed := true, recurses := true, apart := false, narrowed := true }
def TextsCallsUptoSaid : Prop := textsCallsUptoRow.holds Try.pinned (OpenSpec.upto textsCallsSpec)

/-- 'shadowbooklaw07.TextsBack', WHERE WHAT IT READS IS OF BULK AT MOST 1048576: true; the input reads as it did. -/
def textsBackUptoRow : OpenClaim := { program := "ytagcejlclcldcaa", sum := "f9eb6d1c0ce3a4fe5f52006ae2572fd45010b0684ce950bbf8425069ed46bead", func := "shadowbook/shadowbooklaw07.TextsBack", spec := "textsBack", unfollowed := true, recurses := true, apart := false, narrowed := true }
def TextsBackUptoSaid : Prop := textsBackUptoRow.holds Try.pinned (OpenSpec.upto textsBackSpec)

end Rows
end Go.Proofs.Ytagcejlclcldcaa
