/-
  No cell of these rows narrows 'for every input' (looked for: loops, veiled, ifaces, maps, wideKeys, modest, calm, conditions, laid).
  DERIVED. THE GIVEN ROWS OF THIS SEAT. 5 by the template 'for every input the law returns true; each argument reads behind the call as it read before'; 0 by the template 'total and deterministic' (their statements: YtodokclcffejfaaTotals.lean).
  GIVEN WITH THE SEED: the statements are not yours to turn. If you find one false, say at which input.
  Laid BY PROGRAM, IN A SANDBOX (cutbox-rows.mjs): the forced cells as the released guide's own fill.sh prints them over the translation 3b75291c9b626b87… (all of the seat's roots in one cut). By AI agents, Wed Nov 11 2026. No macro, syntax, notation, axiom, sorry.
-/
import Derived.Test.YtodokclcffejfaaChecked
import GoSem.Claim
import GoSem.ClaimJoined
import GoSem.ClaimMapViews
import Derived.JoinedTies
import Derived.KernelRfl
namespace Go.Proofs.Ytodokclcffejfaa
/- THE CELL 'sum', in the pinned program and in every row, IS THE sha256 OF THE DUMP (.gsa) THAT YtodokclcffejfaaProg.lean LOADS. Nothing in Lean hashes anything: it is a label: what it is worth is what the hold of that sum in a sandbox is worth. -/
noncomputable def Try.pinned : Pinned := { name := "ytodokclcffejfaa", sum := "3b75291c9b626b87352647a5fba81424b18a6e711b27e6379fba677c5c1970cc", checked := Try.checked }
namespace Rows
def none {H : Type} : Left H := { results := [], args := [] }

/-- 'shadowbooklaw05.PacksJoins': WHATEVER THE INPUT: true; the input reads as it did. -/
def packsJoinsSpec : ChangeSpec := { name := "packsJoins", fn := fun _ => fun
  | [d1, d2, d3] => { results := [.lit (.bool true)], args := [d1, d2, d3] }
  | _ => none }
def packsJoinsRow : OpenClaim := { program := "ytodokclcffejfaa", sum := "3b75291c9b626b87352647a5fba81424b18a6e711b27e6379fba677c5c1970cc", func := "shadowbook/shadowbooklaw05.PacksJoins", spec := "packsJoins", unfollowed := true, recurses := true, apart := false }
def PacksJoinsSaid : Prop := packsJoinsRow.holds Try.pinned (OpenSpec.ofChange packsJoinsSpec)

/-- ITS FALSE NEIGHBOUR: 'it returns false'. Refute it at one input. -/
def packsJoinsWrong : ChangeSpec := { name := "packsJoins", fn := fun _ => fun
  | [d1, d2, d3] => { results := [.lit (.bool false)], args := [d1, d2, d3] }
  | _ => none }
def PacksJoinsWrongFalsely : Prop := packsJoinsRow.holds Try.pinned (OpenSpec.ofChange packsJoinsWrong)

/-- 'shadowbooklaw05.PacksNames': WHATEVER THE INPUT: true; the input reads as it did. -/
def packsNamesSpec : ChangeSpec := { name := "packsNames", fn := fun _ => fun
  | [] => { results := [.lit (.bool true)], args := [] }
  | _ => none }
def packsNamesRow : OpenClaim := { program := "ytodokclcffejfaa", sum := "3b75291c9b626b87352647a5fba81424b18a6e711b27e6379fba677c5c1970cc", func := "shadowbook/shadowbooklaw05.PacksNames", spec := "packsNames", unfollowed := true, recurses := true, apart := false }
def PacksNamesSaid : Prop := packsNamesRow.holds Try.pinned (OpenSpec.ofChange packsNamesSpec)

/-- ITS FALSE NEIGHBOUR: 'it returns false'. Refute it at one input. -/
def packsNamesWrong : ChangeSpec := { name := "packsNames", fn := fun _ => fun
  | [] => { results := [.lit (.bool false)], args := [] }
  | _ => none }
def PacksNamesWrongFalsely : Prop := packsNamesRow.holds Try.pinned (OpenSpec.ofChange packsNamesWrong)

/-- 'shadowbooklaw05.PacksCalls': WHATEVER THE INPUT: true; the input reads as it did. -/
def packsCallsSpec : ChangeSpec := { name := "packsCalls", fn := fun _ => fun
  | [d1, d2, d3, d4] => { results := [.lit (.bool true)], args := [d1, d2, d3, d4] }
  | _ => none }
def packsCallsRow : OpenClaim := { program := "ytodokclcffejfaa", sum := "3b75291c9b626b87352647a5fba81424b18a6e711b27e6379fba677c5c1970cc", func := "shadowbook/shadowbooklaw05.PacksCalls", spec := "packsCalls", unfollowed := true, recurses := true, apart := false }
def PacksCallsSaid : Prop := packsCallsRow.holds Try.pinned (OpenSpec.ofChange packsCallsSpec)

/-- ITS FALSE NEIGHBOUR: 'it returns false'. Refute it at one input. -/
def packsCallsWrong : ChangeSpec := { name := "packsCalls", fn := fun _ => fun
  | [d1, d2, d3, d4] => { results := [.lit (.bool false)], args := [d1, d2, d3, d4] }
  | _ => none }
def PacksCallsWrongFalsely : Prop := packsCallsRow.holds Try.pinned (OpenSpec.ofChange packsCallsWrong)

/-- 'shadowbooklaw05.PacksBack': WHATEVER THE INPUT: true; the input reads as it did. -/
def packsBackSpec : ChangeSpec := { name := "packsBack", fn := fun _ => fun
  | [d1, d2, d3, d4] => { results := [.lit (.bool true)], args := [d1, d2, d3, d4] }
  | _ => none }
def packsBackRow : OpenClaim := { program := "ytodokclcffejfaa", sum := "3b75291c9b626b87352647a5fba81424b18a6e711b27e6379fba677c5c1970cc", func := "shadowbook/shadowbooklaw05.PacksBack", spec := "packsBack", unfollowed := true, recurses := true, apart := false }
def PacksBackSaid : Prop := packsBackRow.holds Try.pinned (OpenSpec.ofChange packsBackSpec)

/-- ITS FALSE NEIGHBOUR: 'it returns false'. Refute it at one input. -/
def packsBackWrong : ChangeSpec := { name := "packsBack", fn := fun _ => fun
  | [d1, d2, d3, d4] => { results := [.lit (.bool false)], args := [d1, d2, d3, d4] }
  | _ => none }
def PacksBackWrongFalsely : Prop := packsBackRow.holds Try.pinned (OpenSpec.ofChange packsBackWrong)

/-- 'shadowbooklaw05.PacksEarly': WHATEVER THE INPUT: true; the input reads as it did. -/
def packsEarlySpec : ChangeSpec := { name := "packsEarly", fn := fun _ => fun
  | [d1, d2, d3, d4] => { results := [.lit (.bool true)], args := [d1, d2, d3, d4] }
  | _ => none }
def packsEarlyRow : OpenClaim := { program := "ytodokclcffejfaa", sum := "3b75291c9b626b87352647a5fba81424b18a6e711b27e6379fba677c5c1970cc", func := "shadowbook/shadowbooklaw05.PacksEarly", spec := "packsEarly", unfollowed := true, recurses := true, apart := false }
def PacksEarlySaid : Prop := packsEarlyRow.holds Try.pinned (OpenSpec.ofChange packsEarlySpec)

/-- ITS FALSE NEIGHBOUR: 'it returns false'. Refute it at one input. -/
def packsEarlyWrong : ChangeSpec := { name := "packsEarly", fn := fun _ => fun
  | [d1, d2, d3, d4] => { results := [.lit (.bool false)], args := [d1, d2, d3, d4] }
  | _ => none }
def PacksEarlyWrongFalsely : Prop := packsEarlyRow.holds Try.pinned (OpenSpec.ofChange packsEarlyWrong)

/- THE SECOND FORM. 'bulk': how many values and letters a reading holds, each counted each time it is reached (what is shared counts as often as it is met; a slice's spare places count too). A statement '..UptoSaid' is the law's where the arguments, and the package variables that the reading takes, are together of bulk at most 1048576: NARROWER than '..Said'. Prove '..Said' where nothing that the law and all that it calls make is longer than what came in: it says more and counts as full. Else prove '..UptoSaid'. A law counts once. -/
mutual
def uptoBulk {H : Type} : DataW H → Nat
  | .lit (.string bytes) => bytes.length + 1
  | .lit _ => 1
  | .nil => 1
  | .ptr d => uptoBulk d + 1
  | .slice elems spare => uptoBulkAll elems + uptoBulkAll spare + 1
  | .agg parts => uptoBulkAll parts + 1
  | .iface _ d => uptoBulk d + 1
  | .map entries => uptoBulkEntries entries + 1
  | .held _ => 1
def uptoBulkAll {H : Type} : List (DataW H) → Nat
  | [] => 0
  | d :: r => uptoBulk d + uptoBulkAll r
def uptoBulkEntries {H : Type} : List (Lit × DataW H) → Nat
  | [] => 0
  | x :: r => uptoBulkEntry x + uptoBulkEntries r
def uptoBulkEntry {H : Type} : Lit × DataW H → Nat
  | (.string bytes, d) => bytes.length + uptoBulk d + 1
  | (_, d) => uptoBulk d + 1
 end
def uptoSmall : (H : Type) → List (DataW H) → Bool := fun _ ds => decide (uptoBulkAll ds ≤ 1048576)
def OpenSpec.upto (s : _root_.Go.ChangeSpec) : _root_.Go.OpenSpec := { _root_.Go.OpenSpec.ofChange s with cond := some uptoSmall }

/-- 'shadowbooklaw05.PacksJoins', WHERE WHAT IT READS IS OF BULK AT MOST 1048576: true; the input reads as it did. -/
def packsJoinsUptoRow : OpenClaim := { program := "ytodokclcffejfaa", sum := "3b75291c9b626b87352647a5fba81424b18a6e711b27e6379fba677c5c1970cc", func := "shadowbook/shadowbooklaw05.PacksJoins", spec := "packsJoins", unfollowed := true, recurses := true, apart := false, narrowed := true }
def PacksJoinsUptoSaid : Prop := packsJoinsUptoRow.holds Try.pinned (OpenSpec.upto packsJoinsSpec)

/-- 'shadowbooklaw05.PacksNames', WHERE WHAT IT READS IS OF BULK AT MOST 1048576: true; the input reads as it did. -/
def packsNamesUptoRow : OpenClaim := { program := "ytodokclcffejfaa", sum := "3b75291c9b626b87352647a5fba81424b18a6e711b27e6379fba677c5c1970cc", func := "shadowbook/shadowbooklaw05.PacksNames", spec := "packsNames", unfollowed := true, recurses := true, apart := false, narrowed := true }
def PacksNamesUptoSaid : Prop := packsNamesUptoRow.holds Try.pinned (OpenSpec.upto packsNamesSpec)

/-- 'shadowbooklaw05.PacksCalls', WHERE WHAT IT READS IS OF BULK AT MOST 1048576: true; the input reads as it did. -/
def packsCallsUptoRow : OpenClaim := { program := "ytodokclcffejfaa", sum := "3b75291c9b626b87352647a5fba81424b18a6e711b27e6379fba677c5c1970cc", func := "shadowbook/shadowbooklaw05.PacksCalls", spec := "packsCalls", unfollowed := true, recurses := true, apart := false, narrowed := true }
def PacksCallsUptoSaid : Prop := packsCallsUptoRow.holds Try.pinned (OpenSpec.upto packsCallsSpec)

/-- 'shadowbooklaw05.PacksBack', WHERE WHAT IT READS IS OF BULK AT MOST 1048576: true; the input reads as it did. -/
def packsBackUptoRow : OpenClaim := { program := "ytodokclcffejfaa", sum := "3b75291c9b626b87352647a5fba81424b18a6e711b27e6379fba677c5c1970cc", func := "shadowbook/shadowbooklaw05.PacksBack", spec := "packsBack", unfollowed := true, recurses := true, apart := false, narrowed := true }
def PacksBackUptoSaid : Prop := packsBackUptoRow.holds Try.pinned (OpenSpec.upto packsBackSpec)

/-- 'shadowbooklaw05.PacksEarly', WHERE WHAT IT READS IS OF BULK AT MOST 1048576: true; the input reads as it did. -/
def packsEarlyUptoRow : OpenClaim := { program := "ytodokclcffejfaa", sum := "3b75291c9b626b87352647a5fba81424b18a6e711b27e6379fba677c5c1970cc", func := "shadowbook/shadowbooklaw05.PacksEarly", spec := "packsEarly", unfollowed := true, recurses := true, apart := false, narrowed := true }
def PacksEarlyUptoSaid : Prop := packsEarlyUptoRow.holds Try.pinned (OpenSpec.upto packsEarlySpec)

end Rows
end Go.Proofs.Ytodokclcffejfaa
