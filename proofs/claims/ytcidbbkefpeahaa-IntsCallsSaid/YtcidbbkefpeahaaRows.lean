/-
  No cell of these rows narrows 'for every input' (looked for: loops, veiled, ifaces, maps, wideKeys, modest, calm, conditions, laid).
  DERIVED. THE GIVEN ROWS OF THIS SEAT. 5 by the template 'for every input the law returns true; each argument reads behind the call as it read before'; 0 by the template 'total and deterministic' (their statements: YtcidbbkefpeahaaTotals.lean).
  GIVEN WITH THE SEED: the statements are not yours to turn. If you find one false, say at which input.
  Laid BY PROGRAM, IN A SANDBOX (cutbox-rows.mjs): the forced cells as the released guide's own fill.sh prints them over the translation db73c1eaf775beac… (all of the seat's roots in one cut). By AI agents, Wed Nov 11 2026. No macro, syntax, notation, axiom, sorry.
-/
import Derived.Test.YtcidbbkefpeahaaChecked
import GoSem.Claim
import GoSem.ClaimJoined
import GoSem.ClaimMapViews
import Derived.JoinedTies
import Derived.KernelRfl
namespace Go.Proofs.Ytcidbbkefpeahaa
/- THE CELL 'sum', in the pinned program and in every row, IS THE sha256 OF THE DUMP (.gsa) THAT YtcidbbkefpeahaaProg.lean LOADS. Nothing in Lean hashes anything: it is a label: what it is worth is what the hold of that sum in a sandbox is worth. -/
noncomputable def Try.pinned : Pinned := { name := "ytcidbbkefpeahaa", sum := "db73c1eaf775beacf506ff69245ed6db18e8a6a517dd3599db94b7681dc72ee3", checked := Try.checked }
namespace Rows
def none {H : Type} : Left H := { results := [], args := [] }

/-- 'shadowbooklaw06.IntsSame': WHATEVER THE INPUT: true; the input reads as it did. -/
def intsSameSpec : ChangeSpec := { name := "intsSame", fn := fun _ => fun
  | [d1, d2, d3, d4] => { results := [.lit (.bool true)], args := [d1, d2, d3, d4] }
  | _ => none }
def intsSameRow : OpenClaim := { program := "ytcidbbkefpeahaa", sum := "db73c1eaf775beacf506ff69245ed6db18e8a6a517dd3599db94b7681dc72ee3", func := "shadowbook/shadowbooklaw06.IntsSame", spec := "intsSame", unfollowed := true, recurses := true, apart := false }
def IntsSameSaid : Prop := intsSameRow.holds Try.pinned (OpenSpec.ofChange intsSameSpec)

/-- ITS FALSE NEIGHBOUR: 'it returns false'. Refute it at one input. -/
def intsSameWrong : ChangeSpec := { name := "intsSame", fn := fun _ => fun
  | [d1, d2, d3, d4] => { results := [.lit (.bool false)], args := [d1, d2, d3, d4] }
  | _ => none }
def IntsSameWrongFalsely : Prop := intsSameRow.holds Try.pinned (OpenSpec.ofChange intsSameWrong)

/-- 'shadowbooklaw06.IntsOrder': WHATEVER THE INPUT: true; the input reads as it did. -/
def intsOrderSpec : ChangeSpec := { name := "intsOrder", fn := fun _ => fun
  | [d1, d2, d3, d4] => { results := [.lit (.bool true)], args := [d1, d2, d3, d4] }
  | _ => none }
def intsOrderRow : OpenClaim := { program := "ytcidbbkefpeahaa", sum := "db73c1eaf775beacf506ff69245ed6db18e8a6a517dd3599db94b7681dc72ee3", func := "shadowbook/shadowbooklaw06.IntsOrder", spec := "intsOrder", unfollowed := true, recurses := true, apart := false }
def IntsOrderSaid : Prop := intsOrderRow.holds Try.pinned (OpenSpec.ofChange intsOrderSpec)

/-- ITS FALSE NEIGHBOUR: 'it returns false'. Refute it at one input. -/
def intsOrderWrong : ChangeSpec := { name := "intsOrder", fn := fun _ => fun
  | [d1, d2, d3, d4] => { results := [.lit (.bool false)], args := [d1, d2, d3, d4] }
  | _ => none }
def IntsOrderWrongFalsely : Prop := intsOrderRow.holds Try.pinned (OpenSpec.ofChange intsOrderWrong)

/-- 'shadowbooklaw06.IntsNames': WHATEVER THE INPUT: true; the input reads as it did. -/
def intsNamesSpec : ChangeSpec := { name := "intsNames", fn := fun _ => fun
  | [] => { results := [.lit (.bool true)], args := [] }
  | _ => none }
def intsNamesRow : OpenClaim := { program := "ytcidbbkefpeahaa", sum := "db73c1eaf775beacf506ff69245ed6db18e8a6a517dd3599db94b7681dc72ee3", func := "shadowbook/shadowbooklaw06.IntsNames", spec := "intsNames", unfollowed := true, recurses := true, apart := false }
def IntsNamesSaid : Prop := intsNamesRow.holds Try.pinned (OpenSpec.ofChange intsNamesSpec)

/-- ITS FALSE NEIGHBOUR: 'it returns false'. Refute it at one input. -/
def intsNamesWrong : ChangeSpec := { name := "intsNames", fn := fun _ => fun
  | [] => { results := [.lit (.bool false)], args := [] }
  | _ => none }
def IntsNamesWrongFalsely : Prop := intsNamesRow.holds Try.pinned (OpenSpec.ofChange intsNamesWrong)

/-- 'shadowbooklaw06.IntsCalls': WHATEVER THE INPUT: true; the input reads as it did. -/
def intsCallsSpec : ChangeSpec := { name := "intsCalls", fn := fun _ => fun
  | [d1, d2] => { results := [.lit (.bool true)], args := [d1, d2] }
  | _ => none }
def intsCallsRow : OpenClaim := { program := "ytcidbbkefpeahaa", sum := "db73c1eaf775beacf506ff69245ed6db18e8a6a517dd3599db94b7681dc72ee3", func := "shadowbook/shadowbooklaw06.IntsCalls", spec := "intsCalls", unfollowed := true, recurses := true, apart := false }
def IntsCallsSaid : Prop := intsCallsRow.holds Try.pinned (OpenSpec.ofChange intsCallsSpec)

/-- ITS FALSE NEIGHBOUR: 'it returns false'. Refute it at one input. -/
def intsCallsWrong : ChangeSpec := { name := "intsCalls", fn := fun _ => fun
  | [d1, d2] => { results := [.lit (.bool false)], args := [d1, d2] }
  | _ => none }
def IntsCallsWrongFalsely : Prop := intsCallsRow.holds Try.pinned (OpenSpec.ofChange intsCallsWrong)

/-- 'shadowbooklaw06.IntsBack': WHATEVER THE INPUT: true; the input reads as it did. -/
def intsBackSpec : ChangeSpec := { name := "intsBack", fn := fun _ => fun
  | [d1, d2] => { results := [.lit (.bool true)], args := [d1, d2] }
  | _ => none }
def intsBackRow : OpenClaim := { program := "ytcidbbkefpeahaa", sum := "db73c1eaf775beacf506ff69245ed6db18e8a6a517dd3599db94b7681dc72ee3", func := "shadowbook/shadowbooklaw06.IntsBack", spec := "intsBack", unfollowed := true, recurses := true, apart := false }
def IntsBackSaid : Prop := intsBackRow.holds Try.pinned (OpenSpec.ofChange intsBackSpec)

/-- ITS FALSE NEIGHBOUR: 'it returns false'. Refute it at one input. -/
def intsBackWrong : ChangeSpec := { name := "intsBack", fn := fun _ => fun
  | [d1, d2] => { results := [.lit (.bool false)], args := [d1, d2] }
  | _ => none }
def IntsBackWrongFalsely : Prop := intsBackRow.holds Try.pinned (OpenSpec.ofChange intsBackWrong)

/- THE SECOND FORM. 'bulk': how many values and letters a reading holds, each counted each time it is reached (what is shared counts as often as it is met; a slice's spare places count too). A statement '..UptoSaid' is the law's where the arguments, and the package variables that the reading takes, are together of bulk at most 1048576: NARROWER than '..Said'. Prove '..Said' where nothing that the law and all that it calls make is longer than what came in: it says more and counts as full. Else prove '..UptoSaid'. A law counts once. -/
mutual
def uptoBulk {H : Type} : DataW H → Nat
  | .lit (.string bytes) => bytes.length + 1
  | .lit _ => 1
  | .nil => 1
  | .ptr d => uptoBulk d + 1
  | .slice elems spare => uptoBulkAll elems + uptoBulkAll spare + 1
  | .agg parts => uptoBulkAll parts + 1
  | .iface _ d => uptoBulk d + 1
  | .map entries => uptoBulkEntries entries + 1
  | .held _ => 1
def uptoBulkAll {H : Type} : List (DataW H) → Nat
  | [] => 0
  | d :: r => uptoBulk d + uptoBulkAll r
def uptoBulkEntries {H : Type} : List (Lit × DataW H) → Nat
  | [] => 0
  | x :: r => uptoBulkEntry x + uptoBulkEntries r
def uptoBulkEntry {H : Type} : Lit × DataW H → Nat
  | (.string bytes, d) => bytes.length + uptoBulk d + 1
  | (_, d) => uptoBulk d + 1
 end
def uptoSmall : (H : Type) → List (DataW H) → Bool := fun _ ds => decide (uptoBulkAll ds ≤ 1048576)
def OpenSpec.upto (s : _root_.Go.ChangeSpec) : _root_.Go.OpenSpec := { _root_.Go.OpenSpec.ofChange s with cond := some uptoSmall }

/-- 'shadowbooklaw06.IntsSame', WHERE WHAT IT READS IS OF BULK AT MOST 1048576: true; the input reads as it did. -/
def intsSameUptoRow : OpenClaim := { program := "ytcidbbkefpeahaa", sum := "db73c1eaf775beacf506ff69245ed6db18e8a6a517dd3599db94b7681dc72ee3", func := "shadowbook/shadowbooklaw06.IntsSame", spec := "intsSame", unfollowed := true, recurses := true, apart := false, narrowed := true }
def IntsSameUptoSaid : Prop := intsSameUptoRow.holds Try.pinned (OpenSpec.upto intsSameSpec)

/-- 'shadowbooklaw06.IntsOrder', WHERE WHAT IT READS IS OF BULK AT MOST 1048576: true; the input reads as it did. -/
def intsOrderUptoRow : OpenClaim := { program := "ytcidbbkefpeahaa", sum := "db73c1eaf775beacf506ff69245ed6db18e8a6a517dd3599db94b7681dc72ee3", func := "shadowbook/shadowbooklaw06.IntsOrder", spec := "intsOrder", unfollowed := true, recurses := true, apart := false, narrowed := true }
def IntsOrderUptoSaid : Prop := intsOrderUptoRow.holds Try.pinned (OpenSpec.upto intsOrderSpec)

/-- 'shadowbooklaw06.IntsNames', WHERE WHAT IT READS IS OF BULK AT MOST 1048576: true; the input reads as it did. -/
def intsNamesUptoRow : OpenClaim := { program := "ytcidbbkefpeahaa", sum := "db73c1eaf775beacf506ff69245ed6db18e8a6a517dd3599db94b7681dc72ee3", func := "shadowbook/shadowbooklaw06.IntsNames", spec := "intsNames", unfollowed := true, recurses := true, apart := false, narrowed := true }
def IntsNamesUptoSaid : Prop := intsNamesUptoRow.holds Try.pinned (OpenSpec.upto intsNamesSpec)

/-- 'shadowbooklaw06.IntsCalls', WHERE WHAT IT READS IS OF BULK AT MOST 1048576: true; the input reads as it did. -/
def intsCallsUptoRow : OpenClaim := { program := "ytcidbbkefpeahaa", sum := "db73c1eaf775beacf506ff69245ed6db18e8a6a517dd3599db94b7681dc72ee3", func := "shadowbook/shadowbooklaw06.IntsCalls", spec := "intsCalls", unfollowed := true, recurses := true, apart := false, narrowed := true }
def IntsCallsUptoSaid : Prop := intsCallsUptoRow.holds Try.pinned (OpenSpec.upto intsCallsSpec)

/-- 'shadowbooklaw06.IntsBack', WHERE WHAT IT READS IS OF BULK AT MOST 1048576: true; the input reads as it did. -/
def intsBackUptoRow : OpenClaim := { program := "ytcidbbkefpeahaa", sum := "db73c1eaf775beacf506ff69245ed6db18e8a6a517dd3599db94b7681dc72ee3", func := "shadowbook/shadowbooklaw06.IntsBack", spec := "intsBack", unfollowed := true, recurses := true, apart := false, narrowed := true }
def IntsBackUptoSaid : Prop := intsBackUptoRow.holds Try.pinned (OpenSpec.upto intsBackSpec)

end Rows
end Go.Proofs.Ytcidbbkefpeahaa
