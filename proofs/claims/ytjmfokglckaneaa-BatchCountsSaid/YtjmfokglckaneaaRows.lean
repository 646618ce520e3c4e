/-
  No cell of these rows narrows 'for every input' (looked for: loops, veiled, ifaces, maps, wideKeys, modest, calm, conditions, laid).
  DERIVED. THE GIVEN ROWS OF THIS SEAT. 5 by the template 'for every input the law returns true; each argument reads behind the call as it read before'; 0 by the template 'total and deterministic' (their statements: YtjmfokglckaneaaTotals.lean).
  GIVEN WITH THE SEED: the statements are not yours to turn. If you find one false, say at which input.
  Laid BY PROGRAM, IN A SANDBOX (cutbox-rows.mjs): the forced cells as the released guide's own fill.sh prints them over the translation 1c19f31b87a9772e… (all of the seat's roots in one cut). By AI agents, Wed Nov 11 2026. No macro, syntax, notation, axiom, sorry.
-/
import Derived.Test.YtjmfokglckaneaaChecked
import GoSem.Claim
import GoSem.ClaimJoined
import GoSem.ClaimMapViews
import Derived.JoinedTies
import Derived.KernelRfl
namespace Go.Proofs.Ytjmfokglckaneaa
/- THE CELL 'sum', in the pinned program and in every row, IS THE sha256 OF THE DUMP (.gsa) THAT YtjmfokglckaneaaProg.lean LOADS. Nothing in Lean hashes anything: it is a label: what it is worth is what the hold of that sum in a sandbox is worth. -/
noncomputable def Try.pinned : Pinned := { name := "ytjmfokglckaneaa", sum := "1c19f31b87a9772ea36b06ca000b214bf1592a988cdf92b05f87f4f439c442e8", checked := Try.checked }
namespace Rows
def none {H : Type} : Left H := { results := [], args := [] }

/-- 'shadowbooklaw19.BatchParts': WHATEVER THE INPUT: true; the input reads as it did. -/
def batchPartsSpec : ChangeSpec := { name := "batchParts", fn := fun _ => fun
  | [d1, d2, d3, d4] => { results := [.lit (.bool true)], args := [d1, d2, d3, d4] }
  | _ => none }
def batchPartsRow : OpenClaim := { program := "ytjmfokglckaneaa", sum := "1c19f31b87a9772ea36b06ca000b214bf1592a988cdf92b05f87f4f439c442e8", func := "shadowbook/shadowbooklaw19.BatchParts", spec := "batchParts", inPlace := ["internal/bytealg.abigen_runtime_cmpstring"], unfollowed := true, recurses := true, apart := false }
def BatchPartsSaid : Prop := batchPartsRow.holds Try.pinned (OpenSpec.ofChange batchPartsSpec)

/-- ITS FALSE NEIGHBOUR: 'it returns false'. Refute it at one input. -/
def batchPartsWrong : ChangeSpec := { name := "batchParts", fn := fun _ => fun
  | [d1, d2, d3, d4] => { results := [.lit (.bool false)], args := [d1, d2, d3, d4] }
  | _ => none }
def BatchPartsWrongFalsely : Prop := batchPartsRow.holds Try.pinned (OpenSpec.ofChange batchPartsWrong)

/-- 'shadowbooklaw19.BatchOrder': WHATEVER THE INPUT: true; the input reads as it did. -/
def batchOrderSpec : ChangeSpec := { name := "batchOrder", fn := fun _ => fun
  | [d1, d2, d3] => { results := [.lit (.bool true)], args := [d1, d2, d3] }
  | _ => none }
def batchOrderRow : OpenClaim := { program := "ytjmfokglckaneaa", sum := "1c19f31b87a9772ea36b06ca000b214bf1592a988cdf92b05f87f4f439c442e8", func := "shadowbook/shadowbooklaw19.BatchOrder", spec := "batchOrder", inPlace := ["internal/bytealg.abigen_runtime_cmpstring"], unfollowed := true, recurses := true, apart := false }
def BatchOrderSaid : Prop := batchOrderRow.holds Try.pinned (OpenSpec.ofChange batchOrderSpec)

/-- ITS FALSE NEIGHBOUR: 'it returns false'. Refute it at one input. -/
def batchOrderWrong : ChangeSpec := { name := "batchOrder", fn := fun _ => fun
  | [d1, d2, d3] => { results := [.lit (.bool false)], args := [d1, d2, d3] }
  | _ => none }
def BatchOrderWrongFalsely : Prop := batchOrderRow.holds Try.pinned (OpenSpec.ofChange batchOrderWrong)

/-- 'shadowbooklaw19.BatchAgain': WHATEVER THE INPUT: true; the input reads as it did. -/
def batchAgainSpec : ChangeSpec := { name := "batchAgain", fn := fun _ => fun
  | [d1, d2, d3] => { results := [.lit (.bool true)], args := [d1, d2, d3] }
  | _ => none }
def batchAgainRow : OpenClaim := { program := "ytjmfokglckaneaa", sum := "1c19f31b87a9772ea36b06ca000b214bf1592a988cdf92b05f87f4f439c442e8", func := "shadowbook/shadowbooklaw19.BatchAgain", spec := "batchAgain", inPlace := ["internal/bytealg.abigen_runtime_cmpstring"], unfollowed := true, recurses := true, apart := false }
def BatchAgainSaid : Prop := batchAgainRow.holds Try.pinned (OpenSpec.ofChange batchAgainSpec)

/-- ITS FALSE NEIGHBOUR: 'it returns false'. Refute it at one input. -/
def batchAgainWrong : ChangeSpec := { name := "batchAgain", fn := fun _ => fun
  | [d1, d2, d3] => { results := [.lit (.bool false)], args := [d1, d2, d3] }
  | _ => none }
def BatchAgainWrongFalsely : Prop := batchAgainRow.holds Try.pinned (OpenSpec.ofChange batchAgainWrong)

/-- 'shadowbooklaw19.BatchNames': WHATEVER THE INPUT: true; the input reads as it did. -/
def batchNamesSpec : ChangeSpec := { name := "batchNames", fn := fun _ => fun
  | [] => { results := [.lit (.bool true)], args := [] }
  | _ => none }
def batchNamesRow : OpenClaim := { program := "ytjmfokglckaneaa", sum := "1c19f31b87a9772ea36b06ca000b214bf1592a988cdf92b05f87f4f439c442e8", func := "shadowbook/shadowbooklaw19.BatchNames", spec := "batchNames", inPlace := ["internal/bytealg.abigen_runtime_cmpstring"], unfollowed := true, recurses := true, apart := false }
def BatchNamesSaid : Prop := batchNamesRow.holds Try.pinned (OpenSpec.ofChange batchNamesSpec)

/-- ITS FALSE NEIGHBOUR: 'it returns false'. Refute it at one input. -/
def batchNamesWrong : ChangeSpec := { name := "batchNames", fn := fun _ => fun
  | [] => { results := [.lit (.bool false)], args := [] }
  | _ => none }
def BatchNamesWrongFalsely : Prop := batchNamesRow.holds Try.pinned (OpenSpec.ofChange batchNamesWrong)

/-- 'shadowbooklaw19.BatchCounts': WHATEVER THE INPUT: true; the input reads as it did. -/
def batchCountsSpec : ChangeSpec := { name := "batchCounts", fn := fun _ => fun
  | [d1, d2, d3] => { results := [.lit (.bool true)], args := [d1, d2, d3] }
  | _ => none }
def batchCountsRow : OpenClaim := { program := "ytjmfokglckaneaa", sum := "1c19f31b87a9772ea36b06ca000b214bf1592a988cdf92b05f87f4f439c442e8", func := "shadowbook/shadowbooklaw19.BatchCounts", spec := "batchCounts", inPlace := ["internal/bytealg.abigen_runtime_cmpstring"], unfollowed := true, recurses := true, apart := false }
def BatchCountsSaid : Prop := batchCountsRow.holds Try.pinned (OpenSpec.ofChange batchCountsSpec)

/-- ITS FALSE NEIGHBOUR: 'it returns false'. Refute it at one input. -/
def batchCountsWrong : ChangeSpec := { name := "batchCounts", fn := fun _ => fun
  | [d1, d2, d3] => { results := [.lit (.bool false)], args := [d1, d2, d3] }
  | _ => none }
def BatchCountsWrongFalsely : Prop := batchCountsRow.holds Try.pinned (OpenSpec.ofChange batchCountsWrong)

/- THE SECOND FORM. 'bulk': how many values and letters a reading holds, each counted each time it is reached (what is shared counts as often as it is met; a slice's spare places count too). A statement '..UptoSaid' is the law's where the arguments, and the package variables that the reading takes, are together of bulk at most 1048576: NARROWER than '..Said'. Prove '..Said' where nothing that the law and all that it calls make is longer than what came in: it says more and counts as full. Else prove '..UptoSaid'. A law counts once. -/
mutual
def uptoBulk {H : Type} : DataW H → Nat
  | .lit (.string bytes) => bytes.length + 1
  | .lit _ => 1
  | .nil => 1
  | .ptr d => uptoBulk d + 1
  | .slice elems spare => uptoBulkAll elems + uptoBulkAll spare + 1
  | .agg parts => uptoBulkAll parts + 1
  | .iface _ d => uptoBulk d + 1
  | .map entries => uptoBulkEntries entries + 1
  | .held _ => 1
def uptoBulkAll {H : Type} : List (DataW H) → Nat
  | [] => 0
  | d :: r => uptoBulk d + uptoBulkAll r
def uptoBulkEntries {H : Type} : List (Lit × DataW H) → Nat
  | [] => 0
  | x :: r => uptoBulkEntry x + uptoBulkEntries r
def uptoBulkEntry {H : Type} : Lit × DataW H → Nat
  | (.string bytes, d) => bytes.length + uptoBulk d + 1
  | (_, d) => uptoBulk d + 1
 end
def uptoSmall : (H : Type) → List (DataW H) → Bool := fun _ ds => decide (uptoBulkAll ds ≤ 1048576)
def OpenSpec.upto (s : _root_.Go.ChangeSpec) : _root_.Go.OpenSpec := { _root_.Go.OpenSpec.ofChange s with cond := some uptoSmall }

/-- 'shadowbooklaw19.BatchParts', WHERE WHAT IT READS IS OF BULK AT MOST 1048576: true; the input reads as it did. -/
def batchPartsUptoRow : OpenClaim := { program := "ytjmfokglckaneaa", sum := "1c19f31b87a9772ea36b06ca000b214bf1592a988cdf92b05f87f4f439c442e8", func := "shadowbook/shadowbooklaw19.BatchParts", spec := "batchParts", inPlace := ["internal/bytealg.abigen_runtime_cmpstring"], unfollowed := true, recurses := true, apart := false, narrowed := true }
def BatchPartsUptoSaid : Prop := batchPartsUptoRow.holds Try.pinned (OpenSpec.upto batchPartsSpec)

/-- 'shadowbooklaw19.BatchOrder', WHERE WHAT IT READS IS OF BULK AT MOST 1048576: true; the input reads as it did. -/
def batchOrderUptoRow : OpenClaim := { program := "ytjmfokglckaneaa", sum := "1c19f31b87a9772ea36b06ca000b214bf1592a988cdf92b05f87f4f439c442e8", func := "shadowbook/shadowbooklaw19.BatchOrder", spec := "batchOrder", inPlace := ["internal/bytealg.abigen_runtime_cmpstring"], unfollowed := true, recurses := true, apart := false, narrowed := true }
def BatchOrderUptoSaid : Prop := batchOrderUptoRow.holds Try.pinned (OpenSpec.upto batchOrderSpec)

/-- 'shadowbooklaw19.BatchAgain', WHERE WHAT IT READS IS OF BULK AT MOST 1048576: true; the input reads as it did. -/
def batchAgainUptoRow : OpenClaim := { program := "ytjmfokglckaneaa", sum := "1c19f31b87a9772ea36b06ca000b214bf1592a988cdf92b05f87f4f439c442e8", func := "shadowbook/shadowbooklaw19.BatchAgain", spec := "batchAgain", inPlace := ["internal/bytealg.abigen_runtime_cmpstring"], unfollowed := true, recurses := true, apart := false, narrowed := true }
def BatchAgainUptoSaid : Prop := batchAgainUptoRow.holds Try.pinned (OpenSpec.upto batchAgainSpec)

/-- 'shadowbooklaw19.BatchNames', WHERE WHAT IT READS IS OF BULK AT MOST 1048576: true; the input reads as it did. -/
def batchNamesUptoRow : OpenClaim := { program := "ytjmfokglckaneaa", sum := "1c19f31b87a9772ea36b06ca000b214bf1592a988cdf92b05f87f4f439c442e8", func := "shadowbook/shadowbooklaw19.BatchNames", spec := "batchNames", inPlace := ["internal/bytealg.abigen_runtime_cmpstring"], unfollowed := true, recurses := true, apart := false, narrowed := true }
def BatchNamesUptoSaid : Prop := batchNamesUptoRow.holds Try.pinned (OpenSpec.upto batchNamesSpec)

/-- 'shadowbooklaw19.BatchCounts', WHERE WHAT IT READS IS OF BULK AT MOST 1048576: true; the input reads as it did. -/
def batchCountsUptoRow : OpenClaim := { program := "ytjmfokglckaneaa", sum := "1c19f31b87a9772ea36b06ca000b214bf1592a988cdf92b05f87f4f439c442e8", func := "shadowbook/shadowbooklaw19.BatchCounts", spec := "batchCounts", inPlace := ["internal/bytealg.abigen_runtime_cmpstring"], unfollowed := true, recurses := true, apart := false, narrowed := true }
def BatchCountsUptoSaid : Prop := batchCountsUptoRow.holds Try.pinned (OpenSpec.upto batchCountsSpec)

end Rows
end Go.Proofs.Ytjmfokglckaneaa
