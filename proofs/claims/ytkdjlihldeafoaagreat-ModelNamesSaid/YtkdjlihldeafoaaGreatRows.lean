/-
  No cell of these rows narrows 'for every input' (looked for: loops, veiled, ifaces, maps, wideKeys, modest, calm, conditions, laid).
  DERIVED. THE GIVEN ROWS OF THIS SEAT. 8 by the template 'for every input the law returns true; each argument reads behind the call as it read before'; 0 by the template 'total and deterministic' (their statements: YtkdjlihldeafoaaGreatTotals.lean).
  GIVEN WITH THE SEED: the statements are not yours to turn. If you find one false, say at which input.
  Laid BY PROGRAM, IN A SANDBOX (cutbox-rows.mjs): the forced cells as the released guide's own fill.sh prints them over the translation 596b923bd008b80a… (all of the seat's roots in one cut). By AI agents, Wed Nov 11 2026. No macro, syntax, notation, axiom, sorry.
-/
import Derived.Test.YtkdjlihldeafoaaGreatChecked
import GoSem.Claim
import GoSem.ClaimJoined
import GoSem.ClaimMapViews
import Derived.JoinedTies
import Derived.KernelRfl
namespace Go.Proofs.YtkdjlihldeafoaaGreat
/- THE CELL 'sum', in the pinned program and in every row, IS THE sha256 OF THE DUMP (.gsa) THAT YtkdjlihldeafoaaGreatProg.lean LOADS. Nothing in Lean hashes anything: it is a label: what it is worth is what the hold of that sum in a sandbox is worth. -/
noncomputable def Tryz.pinned : Pinned := { name := "ytkdjlihldeafoaagreat", sum := "596b923bd008b80a4ce0873a0860aebe5cc4c56c8ddc9de1a66a849d1235663a", checked := Tryz.checked }
namespace Rows
def none {H : Type} : Left H := { results := [], args := [] }

/-- 'shadowbooklaw21.ModelScans': WHATEVER THE INPUT: true; the input reads as it did. -/
def modelScansSpec : ChangeSpec := { name := "modelScans", fn := fun _ => fun
  | [d1, d2, d3, d4] => { results := [.lit (.bool true)], args := [d1, d2, d3, d4] }
  | _ => none }
def modelScansRow : OpenClaim := { program := "ytkdjlihldeafoaagreat", sum := "596b923bd008b80a4ce0873a0860aebe5cc4c56c8ddc9de1a66a849d1235663a", func := "shadowbook/shadowbooklaw21.ModelScans", spec := "modelScans", inPlace := ["internal/bytealg.abigen_runtime_cmpstring"], unfollowed := true, recurses := true, apart := false }
def ModelScansSaid : Prop := modelScansRow.holds Tryz.pinned (OpenSpec.ofChange modelScansSpec)

/-- ITS FALSE NEIGHBOUR: 'it returns false'. Refute it at one input. -/
def modelScansWrong : ChangeSpec := { name := "modelScans", fn := fun _ => fun
  | [d1, d2, d3, d4] => { results := [.lit (.bool false)], args := [d1, d2, d3, d4] }
  | _ => none }
def ModelScansWrongFalsely : Prop := modelScansRow.holds Tryz.pinned (OpenSpec.ofChange modelScansWrong)

/-- 'shadowbooklaw21.ModelFrozen': WHATEVER THE INPUT: true; the input reads as it did. -/
def modelFrozenSpec : ChangeSpec := { name := "modelFrozen", fn := fun _ => fun
  | [d1, d2, d3] => { results := [.lit (.bool true)], args := [d1, d2, d3] }
  | _ => none }
def modelFrozenRow : OpenClaim := { program := "ytkdjlihldeafoaagreat", sum := "596b923bd008b80a4ce0873a0860aebe5cc4c56c8ddc9de1a66a849d1235663a", func := "shadowbook/shadowbooklaw21.ModelFrozen", spec := "modelFrozen", inPlace := ["internal/bytealg.abigen_runtime_cmpstring"], unfollowed := true, recurses := true, apart := false }
def ModelFrozenSaid : Prop := modelFrozenRow.holds Tryz.pinned (OpenSpec.ofChange modelFrozenSpec)

/-- ITS FALSE NEIGHBOUR: 'it returns false'. Refute it at one input. -/
def modelFrozenWrong : ChangeSpec := { name := "modelFrozen", fn := fun _ => fun
  | [d1, d2, d3] => { results := [.lit (.bool false)], args := [d1, d2, d3] }
  | _ => none }
def ModelFrozenWrongFalsely : Prop := modelFrozenRow.holds Tryz.pinned (OpenSpec.ofChange modelFrozenWrong)

/-- 'shadowbooklaw21.ModelApart': WHATEVER THE INPUT: true; the input reads as it did. -/
def modelApartSpec : ChangeSpec := { name := "modelApart", fn := fun _ => fun
  | [d1, d2] => { results := [.lit (.bool true)], args := [d1, d2] }
  | _ => none }
def modelApartRow : OpenClaim := { program := "ytkdjlihldeafoaagreat", sum := "596b923bd008b80a4ce0873a0860aebe5cc4c56c8ddc9de1a66a849d1235663a", func := "shadowbook/shadowbooklaw21.ModelApart", spec := "modelApart", inPlace := ["internal/bytealg.abigen_runtime_cmpstring"], unfollowed := true, recurses := true, apart := false }
def ModelApartSaid : Prop := modelApartRow.holds Tryz.pinned (OpenSpec.ofChange modelApartSpec)

/-- ITS FALSE NEIGHBOUR: 'it returns false'. Refute it at one input. -/
def modelApartWrong : ChangeSpec := { name := "modelApart", fn := fun _ => fun
  | [d1, d2] => { results := [.lit (.bool false)], args := [d1, d2] }
  | _ => none }
def ModelApartWrongFalsely : Prop := modelApartRow.holds Tryz.pinned (OpenSpec.ofChange modelApartWrong)

/-- 'shadowbooklaw21.ModelAborts': WHATEVER THE INPUT: true; the input reads as it did. -/
def modelAbortsSpec : ChangeSpec := { name := "modelAborts", fn := fun _ => fun
  | [d1, d2] => { results := [.lit (.bool true)], args := [d1, d2] }
  | _ => none }
def modelAbortsRow : OpenClaim := { program := "ytkdjlihldeafoaagreat", sum := "596b923bd008b80a4ce0873a0860aebe5cc4c56c8ddc9de1a66a849d1235663a", func := "shadowbook/shadowbooklaw21.ModelAborts", spec := "modelAborts", inPlace := ["internal/bytealg.abigen_runtime_cmpstring"], unfollowed := true, recurses := true, apart := false }
def ModelAbortsSaid : Prop := modelAbortsRow.holds Tryz.pinned (OpenSpec.ofChange modelAbortsSpec)

/-- ITS FALSE NEIGHBOUR: 'it returns false'. Refute it at one input. -/
def modelAbortsWrong : ChangeSpec := { name := "modelAborts", fn := fun _ => fun
  | [d1, d2] => { results := [.lit (.bool false)], args := [d1, d2] }
  | _ => none }
def ModelAbortsWrongFalsely : Prop := modelAbortsRow.holds Tryz.pinned (OpenSpec.ofChange modelAbortsWrong)

/-- 'shadowbooklaw21.ModelScript': WHATEVER THE INPUT: true; the input reads as it did. -/
def modelScriptSpec : ChangeSpec := { name := "modelScript", fn := fun _ => fun
  | [d] => { results := [.lit (.bool true)], args := [d] }
  | _ => none }
def modelScriptRow : OpenClaim := { program := "ytkdjlihldeafoaagreat", sum := "596b923bd008b80a4ce0873a0860aebe5cc4c56c8ddc9de1a66a849d1235663a", func := "shadowbook/shadowbooklaw21.ModelScript", spec := "modelScript", inPlace := ["internal/bytealg.abigen_runtime_cmpstring"], unfollowed := true, recurses := true, apart := false }
def ModelScriptSaid : Prop := modelScriptRow.holds Tryz.pinned (OpenSpec.ofChange modelScriptSpec)

/-- ITS FALSE NEIGHBOUR: 'it returns false'. Refute it at one input. -/
def modelScriptWrong : ChangeSpec := { name := "modelScript", fn := fun _ => fun
  | [d] => { results := [.lit (.bool false)], args := [d] }
  | _ => none }
def ModelScriptWrongFalsely : Prop := modelScriptRow.holds Tryz.pinned (OpenSpec.ofChange modelScriptWrong)

/-- 'shadowbooklaw21.ModelNames': WHATEVER THE INPUT: true; the input reads as it did. -/
def modelNamesSpec : ChangeSpec := { name := "modelNames", fn := fun _ => fun
  | [] => { results := [.lit (.bool true)], args := [] }
  | _ => none }
def modelNamesRow : OpenClaim := { program := "ytkdjlihldeafoaagreat", sum := "596b923bd008b80a4ce0873a0860aebe5cc4c56c8ddc9de1a66a849d1235663a", func := "shadowbook/shadowbooklaw21.ModelNames", spec := "modelNames", inPlace := ["internal/bytealg.abigen_runtime_cmpstring"], unfollowed := true, recurses := true, apart := false }
def ModelNamesSaid : Prop := modelNamesRow.holds Tryz.pinned (OpenSpec.ofChange modelNamesSpec)

/-- ITS FALSE NEIGHBOUR: 'it returns false'. Refute it at one input. -/
def modelNamesWrong : ChangeSpec := { name := "modelNames", fn := fun _ => fun
  | [] => { results := [.lit (.bool false)], args := [] }
  | _ => none }
def ModelNamesWrongFalsely : Prop := modelNamesRow.holds Tryz.pinned (OpenSpec.ofChange modelNamesWrong)

/-- 'shadowbooklaw21.ModelNil': WHATEVER THE INPUT: true; the input reads as it did. -/
def modelNilSpec : ChangeSpec := { name := "modelNil", fn := fun _ => fun
  | [d] => { results := [.lit (.bool true)], args := [d] }
  | _ => none }
def modelNilRow : OpenClaim := { program := "ytkdjlihldeafoaagreat", sum := "596b923bd008b80a4ce0873a0860aebe5cc4c56c8ddc9de1a66a849d1235663a", func := "shadowbook/shadowbooklaw21.ModelNil", spec := "modelNil", inPlace := ["internal/bytealg.abigen_runtime_cmpstring"], unfollowed := true, recurses := true, apart := false }
def ModelNilSaid : Prop := modelNilRow.holds Tryz.pinned (OpenSpec.ofChange modelNilSpec)

/-- ITS FALSE NEIGHBOUR: 'it returns false'. Refute it at one input. -/
def modelNilWrong : ChangeSpec := { name := "modelNil", fn := fun _ => fun
  | [d] => { results := [.lit (.bool false)], args := [d] }
  | _ => none }
def ModelNilWrongFalsely : Prop := modelNilRow.holds Tryz.pinned (OpenSpec.ofChange modelNilWrong)

/-- 'shadowbooklaw21.ModelClones': WHATEVER THE INPUT: true; the input reads as it did. -/
def modelClonesSpec : ChangeSpec := { name := "modelClones", fn := fun _ => fun
  | [d1, d2] => { results := [.lit (.bool true)], args := [d1, d2] }
  | _ => none }
def modelClonesRow : OpenClaim := { program := "ytkdjlihldeafoaagreat", sum := "596b923bd008b80a4ce0873a0860aebe5cc4c56c8ddc9de1a66a849d1235663a", func := "shadowbook/shadowbooklaw21.ModelClones", spec := "modelClones", inPlace := ["internal/bytealg.abigen_runtime_cmpstring"], unfollowed := true, recurses := true, apart := false }
def ModelClonesSaid : Prop := modelClonesRow.holds Tryz.pinned (OpenSpec.ofChange modelClonesSpec)

/-- ITS FALSE NEIGHBOUR: 'it returns false'. Refute it at one input. -/
def modelClonesWrong : ChangeSpec := { name := "modelClones", fn := fun _ => fun
  | [d1, d2] => { results := [.lit (.bool false)], args := [d1, d2] }
  | _ => none }
def ModelClonesWrongFalsely : Prop := modelClonesRow.holds Tryz.pinned (OpenSpec.ofChange modelClonesWrong)

/- THE SECOND FORM. 'bulk': how many values and letters a reading holds, each counted each time it is reached (what is shared counts as often as it is met; a slice's spare places count too). A statement '..UptoSaid' is the law's where the arguments, and the package variables that the reading takes, are together of bulk at most 1048576: NARROWER than '..Said'. Prove '..Said' where nothing that the law and all that it calls make is longer than what came in: it says more and counts as full. Else prove '..UptoSaid'. A law counts once. -/
mutual
def uptoBulk {H : Type} : DataW H → Nat
  | .lit (.string bytes) => bytes.length + 1
  | .lit _ => 1
  | .nil => 1
  | .ptr d => uptoBulk d + 1
  | .slice elems spare => uptoBulkAll elems + uptoBulkAll spare + 1
  | .agg parts => uptoBulkAll parts + 1
  | .iface _ d => uptoBulk d + 1
  | .map entries => uptoBulkEntries entries + 1
  | .held _ => 1
def uptoBulkAll {H : Type} : List (DataW H) → Nat
  | [] => 0
  | d :: r => uptoBulk d + uptoBulkAll r
def uptoBulkEntries {H : Type} : List (Lit × DataW H) → Nat
  | [] => 0
  | x :: r => uptoBulkEntry x + uptoBulkEntries r
def uptoBulkEntry {H : Type} : Lit × DataW H → Nat
  | (.string bytes, d) => bytes.length + uptoBulk d + 1
  | (_, d) => uptoBulk d + 1
 end
def uptoSmall : (H : Type) → List (DataW H) → Bool := fun _ ds => decide (uptoBulkAll ds ≤ 1048576)
def OpenSpec.upto (s : _root_.Go.ChangeSpec) : _root_.Go.OpenSpec := { _root_.Go.OpenSpec.ofChange s with cond := some uptoSmall }

/-- 'shadowbooklaw21.ModelScans', WHERE WHAT IT READS IS OF BULK AT MOST 1048576: true; the input reads as it did. -/
def modelScansUptoRow : OpenClaim := { program := "ytkdjlihldeafoaagreat", sum := "596b923bd008b80a4ce0873a0860aebe5cc4c56c8ddc9de1a66a849d1235663a", func := "shadowbook/shadowbooklaw21.ModelScans", spec := "modelScans", inPlace := ["internal/bytealg.abigen_runtime_cmpstring"], unfollowed := true, recurses := true, apart := false, narrowed := true }
def ModelScansUptoSaid : Prop := modelScansUptoRow.holds Tryz.pinned (OpenSpec.upto modelScansSpec)

/-- 'shadowbooklaw21.ModelFrozen', WHERE WHAT IT READS IS OF BULK AT MOST 1048576: true; the input reads as it did. -/
def modelFrozenUptoRow : OpenClaim := { program := "ytkdjlihldeafoaagreat", sum := "596b923bd008b80a4ce0873a0860aebe5cc4c56c8ddc9de1a66a849d1235663a", func := "shadowbook/shadowbooklaw21.ModelFrozen", spec := "modelFrozen", inPlace := ["internal/bytealg.abigen_runtime_cmpstring"], unfollowed := true, recurses := true, apart := false, narrowed := true }
def ModelFrozenUptoSaid : Prop := modelFrozenUptoRow.holds Tryz.pinned (OpenSpec.upto modelFrozenSpec)

/-- 'shadowbooklaw21.ModelApart', WHERE WHAT IT READS IS OF BULK AT MOST 1048576: true; the input reads as it did. -/
def modelApartUptoRow : OpenClaim := { program := "ytkdjlihldeafoaagreat", sum := "596b923bd008b80a4ce0873a0860aebe5cc4c56c8ddc9de1a66a849d1235663a", func := "shadowbook/shadowbooklaw21.ModelApart", spec := "modelApart", inPlace := ["internal/bytealg.abigen_runtime_cmpstring"], unfollowed := true, recurses := true, apart := false, narrowed := true }
def ModelApartUptoSaid : Prop := modelApartUptoRow.holds Tryz.pinned (OpenSpec.upto modelApartSpec)

/-- 'shadowbooklaw21.ModelAborts', WHERE WHAT IT READS IS OF BULK AT MOST 1048576: true; the input reads as it did. -/
def modelAbortsUptoRow : OpenClaim := { program := "ytkdjlihldeafoaagreat", sum := "596b923bd008b80a4ce0873a0860aebe5cc4c56c8ddc9de1a66a849d1235663a", func := "shadowbook/shadowbooklaw21.ModelAborts", spec := "modelAborts", inPlace := ["internal/bytealg.abigen_runtime_cmpstring"], unfollowed := true, recurses := true, apart := false, narrowed := true }
def ModelAbortsUptoSaid : Prop := modelAbortsUptoRow.holds Tryz.pinned (OpenSpec.upto modelAbortsSpec)

/-- 'shadowbooklaw21.ModelScript', WHERE WHAT IT READS IS OF BULK AT MOST 1048576: true; the input reads as it did. -/
def modelScriptUptoRow : OpenClaim := { program := "ytkdjlihldeafoaagreat", sum := "596b923bd008b80a4ce0873a0860aebe5cc4c56c8ddc9de1a66a849d1235663a", func := "shadowbook/shadowbooklaw21.ModelScript", spec := "modelScript", inPlace := ["internal/bytealg.abigen_runtime_cmpstring"], unfollowed := true, recurses := true, apart := false, narrowed := true }
def ModelScriptUptoSaid : Prop := modelScriptUptoRow.holds Tryz.pinned (OpenSpec.upto modelScriptSpec)

/-- 'shadowbooklaw21.ModelNames', WHERE WHAT IT READS IS OF BULK AT MOST 1048576: true; the input reads as it did. -/
def modelNamesUptoRow : OpenClaim := { program := "ytkdjlihldeafoaagreat", sum := "596b923bd008b80a4ce0873a0860aebe5cc4c56c8ddc9de1a66a849d1235663a", func := "shadowbook/shadowbooklaw21.ModelNames", spec := "modelNames", inPlace := ["internal/bytealg.abigen_runtime_cmpstring"], unfollowed := true, recurses := true, apart := false, narrowed := true }
def ModelNamesUptoSaid : Prop := modelNamesUptoRow.holds Tryz.pinned (OpenSpec.upto modelNamesSpec)

/-- 'shadowbooklaw21.ModelNil', WHERE WHAT IT READS IS OF BULK AT MOST 1048576: true; the input reads as it did. -/
def modelNilUptoRow : OpenClaim := { program := "ytkdjlihldeafoaagreat", sum := "596b923bd008b80a4ce0873a0860aebe5cc4c56c8ddc9de1a66a849d1235663a", func := "shadowbook/shadowbooklaw21.ModelNil", spec := "modelNil", inPlace := ["internal/bytealg.abigen_runtime_cmpstring"], unfollowed := true, recurses := true, apart := false, narrowed := true }
def ModelNilUptoSaid : Prop := modelNilUptoRow.holds Tryz.pinned (OpenSpec.upto modelNilSpec)

/-- 'shadowbooklaw21.ModelClones', WHERE WHAT IT READS IS OF BULK AT MOST 1048576: true; the input reads as it did. -/
def modelClonesUptoRow : OpenClaim := { program := "ytkdjlihldeafoaagreat", sum := "596b923bd008b80a4ce0873a0860aebe5cc4c56c8ddc9de1a66a849d1235663a", func := "shadowbook/shadowbooklaw21.ModelClones", spec := "modelClones", inPlace := ["internal/bytealg.abigen_runtime_cmpstring"], unfollowed := true, recurses := true, apart := false, narrowed := true }
def ModelClonesUptoSaid : Prop := modelClonesUptoRow.holds Tryz.pinned (OpenSpec.upto modelClonesSpec)

end Rows
end Go.Proofs.YtkdjlihldeafoaaGreat
