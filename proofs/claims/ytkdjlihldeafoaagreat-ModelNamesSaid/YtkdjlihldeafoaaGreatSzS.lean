/- The shallow functions together. Printed by a program of the prover's own from the loaded program; Lean checks it. -/
import Derived.Test.YtkdjlihldeafoaaGreatSzF
set_option linter.unusedVariables false
set_option linter.unusedSimpArgs false
set_option maxRecDepth 100000
namespace Go.Proofs.YtkdjlihldeafoaaGreat.Sh
open Go Go.RowKit Go.Proofs.Ev
set_option maxHeartbeats 40000000
noncomputable def sF8 (inv : Inv) (k : Nat) (args : Array Value) (h : AH) : Option (Value × AH) := match args with
  | ⟨[]⟩ => F8 inv k  h
  | args => eFun env k inv 8 args h
theorem sF8_eq (inv : Inv) (k : Nat) (args : Array Value) (h : AH) : sF8 inv k args h = eFun env k inv 8 args h := by
  unfold sF8
  split
  · exact F8_eq.symm
  · rfl
noncomputable def sF11 (inv : Inv) (k : Nat) (args : Array Value) (h : AH) : Option (Value × AH) := match args with
  | ⟨[]⟩ => F11 inv k  h
  | args => eFun env k inv 11 args h
theorem sF11_eq (inv : Inv) (k : Nat) (args : Array Value) (h : AH) : sF11 inv k args h = eFun env k inv 11 args h := by
  unfold sF11
  split
  · exact F11_eq.symm
  · rfl
noncomputable def sF14 (inv : Inv) (k : Nat) (args : Array Value) (h : AH) : Option (Value × AH) := match args with
  | ⟨[]⟩ => F14 inv k  h
  | args => eFun env k inv 14 args h
theorem sF14_eq (inv : Inv) (k : Nat) (args : Array Value) (h : AH) : sF14 inv k args h = eFun env k inv 14 args h := by
  unfold sF14
  split
  · exact F14_eq.symm
  · rfl
noncomputable def sF15 (inv : Inv) (k : Nat) (args : Array Value) (h : AH) : Option (Value × AH) := match args with
  | ⟨[x0, x1]⟩ => F15 inv k x0 x1 h
  | args => eFun env k inv 15 args h
theorem sF15_eq (inv : Inv) (k : Nat) (args : Array Value) (h : AH) : sF15 inv k args h = eFun env k inv 15 args h := by
  unfold sF15
  split
  · exact F15_eq.symm
  · rfl
noncomputable def sF16 (inv : Inv) (k : Nat) (args : Array Value) (h : AH) : Option (Value × AH) := match args with
  | ⟨[x0, x1]⟩ => F16 inv k x0 x1 h
  | args => eFun env k inv 16 args h
theorem sF16_eq (inv : Inv) (k : Nat) (args : Array Value) (h : AH) : sF16 inv k args h = eFun env k inv 16 args h := by
  unfold sF16
  split
  · exact F16_eq.symm
  · rfl
noncomputable def sF19 (inv : Inv) (k : Nat) (args : Array Value) (h : AH) : Option (Value × AH) := match args with
  | ⟨[x0, x1]⟩ => F19 inv k x0 x1 h
  | args => eFun env k inv 19 args h
theorem sF19_eq (inv : Inv) (k : Nat) (args : Array Value) (h : AH) : sF19 inv k args h = eFun env k inv 19 args h := by
  unfold sF19
  split
  · exact F19_eq.symm
  · rfl
noncomputable def sF20 (inv : Inv) (k : Nat) (args : Array Value) (h : AH) : Option (Value × AH) := match args with
  | ⟨[x0]⟩ => F20 inv k x0 h
  | args => eFun env k inv 20 args h
theorem sF20_eq (inv : Inv) (k : Nat) (args : Array Value) (h : AH) : sF20 inv k args h = eFun env k inv 20 args h := by
  unfold sF20
  split
  · exact F20_eq.symm
  · rfl
noncomputable def sF21 (inv : Inv) (k : Nat) (args : Array Value) (h : AH) : Option (Value × AH) := match args with
  | ⟨[x0, x1]⟩ => F21 inv k x0 x1 h
  | args => eFun env k inv 21 args h
theorem sF21_eq (inv : Inv) (k : Nat) (args : Array Value) (h : AH) : sF21 inv k args h = eFun env k inv 21 args h := by
  unfold sF21
  split
  · exact F21_eq.symm
  · rfl
noncomputable def sF22 (inv : Inv) (k : Nat) (args : Array Value) (h : AH) : Option (Value × AH) := match args with
  | ⟨[x0, x1]⟩ => F22 inv k x0 x1 h
  | args => eFun env k inv 22 args h
theorem sF22_eq (inv : Inv) (k : Nat) (args : Array Value) (h : AH) : sF22 inv k args h = eFun env k inv 22 args h := by
  unfold sF22
  split
  · exact F22_eq.symm
  · rfl
noncomputable def sF23 (inv : Inv) (k : Nat) (args : Array Value) (h : AH) : Option (Value × AH) := match args with
  | ⟨[x0]⟩ => F23 inv k x0 h
  | args => eFun env k inv 23 args h
theorem sF23_eq (inv : Inv) (k : Nat) (args : Array Value) (h : AH) : sF23 inv k args h = eFun env k inv 23 args h := by
  unfold sF23
  split
  · exact F23_eq.symm
  · rfl
noncomputable def sF24 (inv : Inv) (k : Nat) (args : Array Value) (h : AH) : Option (Value × AH) := match args with
  | ⟨[x0]⟩ => F24 inv k x0 h
  | args => eFun env k inv 24 args h
theorem sF24_eq (inv : Inv) (k : Nat) (args : Array Value) (h : AH) : sF24 inv k args h = eFun env k inv 24 args h := by
  unfold sF24
  split
  · exact F24_eq.symm
  · rfl
noncomputable def sF25 (inv : Inv) (k : Nat) (args : Array Value) (h : AH) : Option (Value × AH) := match args with
  | ⟨[x0, x1]⟩ => F25 inv k x0 x1 h
  | args => eFun env k inv 25 args h
theorem sF25_eq (inv : Inv) (k : Nat) (args : Array Value) (h : AH) : sF25 inv k args h = eFun env k inv 25 args h := by
  unfold sF25
  split
  · exact F25_eq.symm
  · rfl
noncomputable def sF30 (inv : Inv) (k : Nat) (args : Array Value) (h : AH) : Option (Value × AH) := match args with
  | ⟨[x0]⟩ => F30 inv k x0 h
  | args => eFun env k inv 30 args h
theorem sF30_eq (inv : Inv) (k : Nat) (args : Array Value) (h : AH) : sF30 inv k args h = eFun env k inv 30 args h := by
  unfold sF30
  split
  · exact F30_eq.symm
  · rfl
noncomputable def sF32 (inv : Inv) (k : Nat) (args : Array Value) (h : AH) : Option (Value × AH) := match args with
  | ⟨[x0]⟩ => F32 inv k x0 h
  | args => eFun env k inv 32 args h
theorem sF32_eq (inv : Inv) (k : Nat) (args : Array Value) (h : AH) : sF32 inv k args h = eFun env k inv 32 args h := by
  unfold sF32
  split
  · exact F32_eq.symm
  · rfl
noncomputable def sF33 (inv : Inv) (k : Nat) (args : Array Value) (h : AH) : Option (Value × AH) := match args with
  | ⟨[x0]⟩ => F33 inv k x0 h
  | args => eFun env k inv 33 args h
theorem sF33_eq (inv : Inv) (k : Nat) (args : Array Value) (h : AH) : sF33 inv k args h = eFun env k inv 33 args h := by
  unfold sF33
  split
  · exact F33_eq.symm
  · rfl
noncomputable def sF34 (inv : Inv) (k : Nat) (args : Array Value) (h : AH) : Option (Value × AH) := match args with
  | ⟨[x0, x1, x2]⟩ => F34 inv k x0 x1 x2 h
  | args => eFun env k inv 34 args h
theorem sF34_eq (inv : Inv) (k : Nat) (args : Array Value) (h : AH) : sF34 inv k args h = eFun env k inv 34 args h := by
  unfold sF34
  split
  · exact F34_eq.symm
  · rfl
noncomputable def sF35 (inv : Inv) (k : Nat) (args : Array Value) (h : AH) : Option (Value × AH) := match args with
  | ⟨[x0]⟩ => F35 inv k x0 h
  | args => eFun env k inv 35 args h
theorem sF35_eq (inv : Inv) (k : Nat) (args : Array Value) (h : AH) : sF35 inv k args h = eFun env k inv 35 args h := by
  unfold sF35
  split
  · exact F35_eq.symm
  · rfl
noncomputable def sF36 (inv : Inv) (k : Nat) (args : Array Value) (h : AH) : Option (Value × AH) := match args with
  | ⟨[x0, x1]⟩ => F36 inv k x0 x1 h
  | args => eFun env k inv 36 args h
theorem sF36_eq (inv : Inv) (k : Nat) (args : Array Value) (h : AH) : sF36 inv k args h = eFun env k inv 36 args h := by
  unfold sF36
  split
  · exact F36_eq.symm
  · rfl
noncomputable def sF37 (inv : Inv) (k : Nat) (args : Array Value) (h : AH) : Option (Value × AH) := match args with
  | ⟨[x0, x1]⟩ => F37 inv k x0 x1 h
  | args => eFun env k inv 37 args h
theorem sF37_eq (inv : Inv) (k : Nat) (args : Array Value) (h : AH) : sF37 inv k args h = eFun env k inv 37 args h := by
  unfold sF37
  split
  · exact F37_eq.symm
  · rfl
noncomputable def sF39 (inv : Inv) (k : Nat) (args : Array Value) (h : AH) : Option (Value × AH) := match args with
  | ⟨[x0]⟩ => F39 inv k x0 h
  | args => eFun env k inv 39 args h
theorem sF39_eq (inv : Inv) (k : Nat) (args : Array Value) (h : AH) : sF39 inv k args h = eFun env k inv 39 args h := by
  unfold sF39
  split
  · exact F39_eq.symm
  · rfl
noncomputable def sF40 (inv : Inv) (k : Nat) (args : Array Value) (h : AH) : Option (Value × AH) := match args with
  | ⟨[]⟩ => F40 inv k  h
  | args => eFun env k inv 40 args h
theorem sF40_eq (inv : Inv) (k : Nat) (args : Array Value) (h : AH) : sF40 inv k args h = eFun env k inv 40 args h := by
  unfold sF40
  split
  · exact F40_eq.symm
  · rfl
noncomputable def sF42 (inv : Inv) (k : Nat) (args : Array Value) (h : AH) : Option (Value × AH) := match args with
  | ⟨[x0, x1]⟩ => F42 inv k x0 x1 h
  | args => eFun env k inv 42 args h
theorem sF42_eq (inv : Inv) (k : Nat) (args : Array Value) (h : AH) : sF42 inv k args h = eFun env k inv 42 args h := by
  unfold sF42
  split
  · exact F42_eq.symm
  · rfl
noncomputable def sF43 (inv : Inv) (k : Nat) (args : Array Value) (h : AH) : Option (Value × AH) := match args with
  | ⟨[x0, x1]⟩ => F43 inv k x0 x1 h
  | args => eFun env k inv 43 args h
theorem sF43_eq (inv : Inv) (k : Nat) (args : Array Value) (h : AH) : sF43 inv k args h = eFun env k inv 43 args h := by
  unfold sF43
  split
  · exact F43_eq.symm
  · rfl
noncomputable def sF44 (inv : Inv) (k : Nat) (args : Array Value) (h : AH) : Option (Value × AH) := match args with
  | ⟨[x0, x1]⟩ => F44 inv k x0 x1 h
  | args => eFun env k inv 44 args h
theorem sF44_eq (inv : Inv) (k : Nat) (args : Array Value) (h : AH) : sF44 inv k args h = eFun env k inv 44 args h := by
  unfold sF44
  split
  · exact F44_eq.symm
  · rfl
noncomputable def sF45 (inv : Inv) (k : Nat) (args : Array Value) (h : AH) : Option (Value × AH) := match args with
  | ⟨[x0, x1, x2]⟩ => F45 inv k x0 x1 x2 h
  | args => eFun env k inv 45 args h
theorem sF45_eq (inv : Inv) (k : Nat) (args : Array Value) (h : AH) : sF45 inv k args h = eFun env k inv 45 args h := by
  unfold sF45
  split
  · exact F45_eq.symm
  · rfl
noncomputable def sF46 (inv : Inv) (k : Nat) (args : Array Value) (h : AH) : Option (Value × AH) := match args with
  | ⟨[x0]⟩ => F46 inv k x0 h
  | args => eFun env k inv 46 args h
theorem sF46_eq (inv : Inv) (k : Nat) (args : Array Value) (h : AH) : sF46 inv k args h = eFun env k inv 46 args h := by
  unfold sF46
  split
  · exact F46_eq.symm
  · rfl
noncomputable def sF47 (inv : Inv) (k : Nat) (args : Array Value) (h : AH) : Option (Value × AH) := match args with
  | ⟨[x0, x1, x2]⟩ => F47 inv k x0 x1 x2 h
  | args => eFun env k inv 47 args h
theorem sF47_eq (inv : Inv) (k : Nat) (args : Array Value) (h : AH) : sF47 inv k args h = eFun env k inv 47 args h := by
  unfold sF47
  split
  · exact F47_eq.symm
  · rfl
noncomputable def sF48 (inv : Inv) (k : Nat) (args : Array Value) (h : AH) : Option (Value × AH) := match args with
  | ⟨[x0, x1]⟩ => F48 inv k x0 x1 h
  | args => eFun env k inv 48 args h
theorem sF48_eq (inv : Inv) (k : Nat) (args : Array Value) (h : AH) : sF48 inv k args h = eFun env k inv 48 args h := by
  unfold sF48
  split
  · exact F48_eq.symm
  · rfl
noncomputable def sF49 (inv : Inv) (k : Nat) (args : Array Value) (h : AH) : Option (Value × AH) := match args with
  | ⟨[x0, x1, x2]⟩ => F49 inv k x0 x1 x2 h
  | args => eFun env k inv 49 args h
theorem sF49_eq (inv : Inv) (k : Nat) (args : Array Value) (h : AH) : sF49 inv k args h = eFun env k inv 49 args h := by
  unfold sF49
  split
  · exact F49_eq.symm
  · rfl
noncomputable def sF50 (inv : Inv) (k : Nat) (args : Array Value) (h : AH) : Option (Value × AH) := match args with
  | ⟨[x0, x1]⟩ => F50 inv k x0 x1 h
  | args => eFun env k inv 50 args h
theorem sF50_eq (inv : Inv) (k : Nat) (args : Array Value) (h : AH) : sF50 inv k args h = eFun env k inv 50 args h := by
  unfold sF50
  split
  · exact F50_eq.symm
  · rfl
noncomputable def sF62 (inv : Inv) (k : Nat) (args : Array Value) (h : AH) : Option (Value × AH) := match args with
  | ⟨[]⟩ => F62 inv k  h
  | args => eFun env k inv 62 args h
theorem sF62_eq (inv : Inv) (k : Nat) (args : Array Value) (h : AH) : sF62 inv k args h = eFun env k inv 62 args h := by
  unfold sF62
  split
  · exact F62_eq.symm
  · rfl
noncomputable def sF63 (inv : Inv) (k : Nat) (args : Array Value) (h : AH) : Option (Value × AH) := match args with
  | ⟨[x0]⟩ => F63 inv k x0 h
  | args => eFun env k inv 63 args h
theorem sF63_eq (inv : Inv) (k : Nat) (args : Array Value) (h : AH) : sF63 inv k args h = eFun env k inv 63 args h := by
  unfold sF63
  split
  · exact F63_eq.symm
  · rfl
noncomputable def sF64 (inv : Inv) (k : Nat) (args : Array Value) (h : AH) : Option (Value × AH) := match args with
  | ⟨[x0]⟩ => F64 inv k x0 h
  | args => eFun env k inv 64 args h
theorem sF64_eq (inv : Inv) (k : Nat) (args : Array Value) (h : AH) : sF64 inv k args h = eFun env k inv 64 args h := by
  unfold sF64
  split
  · exact F64_eq.symm
  · rfl
noncomputable def sF67 (inv : Inv) (k : Nat) (args : Array Value) (h : AH) : Option (Value × AH) := match args with
  | ⟨[x0, x1]⟩ => F67 inv k x0 x1 h
  | args => eFun env k inv 67 args h
theorem sF67_eq (inv : Inv) (k : Nat) (args : Array Value) (h : AH) : sF67 inv k args h = eFun env k inv 67 args h := by
  unfold sF67
  split
  · exact F67_eq.symm
  · rfl
noncomputable def sF68 (inv : Inv) (k : Nat) (args : Array Value) (h : AH) : Option (Value × AH) := match args with
  | ⟨[x0, x1]⟩ => F68 inv k x0 x1 h
  | args => eFun env k inv 68 args h
theorem sF68_eq (inv : Inv) (k : Nat) (args : Array Value) (h : AH) : sF68 inv k args h = eFun env k inv 68 args h := by
  unfold sF68
  split
  · exact F68_eq.symm
  · rfl
noncomputable def sF69 (inv : Inv) (k : Nat) (args : Array Value) (h : AH) : Option (Value × AH) := match args with
  | ⟨[x0, x1]⟩ => F69 inv k x0 x1 h
  | args => eFun env k inv 69 args h
theorem sF69_eq (inv : Inv) (k : Nat) (args : Array Value) (h : AH) : sF69 inv k args h = eFun env k inv 69 args h := by
  unfold sF69
  split
  · exact F69_eq.symm
  · rfl
noncomputable def sF70 (inv : Inv) (k : Nat) (args : Array Value) (h : AH) : Option (Value × AH) := match args with
  | ⟨[x0, x1]⟩ => F70 inv k x0 x1 h
  | args => eFun env k inv 70 args h
theorem sF70_eq (inv : Inv) (k : Nat) (args : Array Value) (h : AH) : sF70 inv k args h = eFun env k inv 70 args h := by
  unfold sF70
  split
  · exact F70_eq.symm
  · rfl
noncomputable def sF71 (inv : Inv) (k : Nat) (args : Array Value) (h : AH) : Option (Value × AH) := match args with
  | ⟨[x0, x1]⟩ => F71 inv k x0 x1 h
  | args => eFun env k inv 71 args h
theorem sF71_eq (inv : Inv) (k : Nat) (args : Array Value) (h : AH) : sF71 inv k args h = eFun env k inv 71 args h := by
  unfold sF71
  split
  · exact F71_eq.symm
  · rfl
noncomputable def sF72 (inv : Inv) (k : Nat) (args : Array Value) (h : AH) : Option (Value × AH) := match args with
  | ⟨[x0, x1]⟩ => F72 inv k x0 x1 h
  | args => eFun env k inv 72 args h
theorem sF72_eq (inv : Inv) (k : Nat) (args : Array Value) (h : AH) : sF72 inv k args h = eFun env k inv 72 args h := by
  unfold sF72
  split
  · exact F72_eq.symm
  · rfl
noncomputable def sF73 (inv : Inv) (k : Nat) (args : Array Value) (h : AH) : Option (Value × AH) := match args with
  | ⟨[x0, x1]⟩ => F73 inv k x0 x1 h
  | args => eFun env k inv 73 args h
theorem sF73_eq (inv : Inv) (k : Nat) (args : Array Value) (h : AH) : sF73 inv k args h = eFun env k inv 73 args h := by
  unfold sF73
  split
  · exact F73_eq.symm
  · rfl
noncomputable def sF74 (inv : Inv) (k : Nat) (args : Array Value) (h : AH) : Option (Value × AH) := match args with
  | ⟨[x0, x1]⟩ => F74 inv k x0 x1 h
  | args => eFun env k inv 74 args h
theorem sF74_eq (inv : Inv) (k : Nat) (args : Array Value) (h : AH) : sF74 inv k args h = eFun env k inv 74 args h := by
  unfold sF74
  split
  · exact F74_eq.symm
  · rfl
noncomputable def sF75 (inv : Inv) (k : Nat) (args : Array Value) (h : AH) : Option (Value × AH) := match args with
  | ⟨[x0, x1]⟩ => F75 inv k x0 x1 h
  | args => eFun env k inv 75 args h
theorem sF75_eq (inv : Inv) (k : Nat) (args : Array Value) (h : AH) : sF75 inv k args h = eFun env k inv 75 args h := by
  unfold sF75
  split
  · exact F75_eq.symm
  · rfl
noncomputable def sF76 (inv : Inv) (k : Nat) (args : Array Value) (h : AH) : Option (Value × AH) := match args with
  | ⟨[x0, x1]⟩ => F76 inv k x0 x1 h
  | args => eFun env k inv 76 args h
theorem sF76_eq (inv : Inv) (k : Nat) (args : Array Value) (h : AH) : sF76 inv k args h = eFun env k inv 76 args h := by
  unfold sF76
  split
  · exact F76_eq.symm
  · rfl
noncomputable def sF77 (inv : Inv) (k : Nat) (args : Array Value) (h : AH) : Option (Value × AH) := match args with
  | ⟨[x0, x1]⟩ => F77 inv k x0 x1 h
  | args => eFun env k inv 77 args h
theorem sF77_eq (inv : Inv) (k : Nat) (args : Array Value) (h : AH) : sF77 inv k args h = eFun env k inv 77 args h := by
  unfold sF77
  split
  · exact F77_eq.symm
  · rfl
noncomputable def sF81 (inv : Inv) (k : Nat) (args : Array Value) (h : AH) : Option (Value × AH) := match args with
  | ⟨[x0, x1, x2]⟩ => F81 inv k x0 x1 x2 h
  | args => eFun env k inv 81 args h
theorem sF81_eq (inv : Inv) (k : Nat) (args : Array Value) (h : AH) : sF81 inv k args h = eFun env k inv 81 args h := by
  unfold sF81
  split
  · exact F81_eq.symm
  · rfl
noncomputable def sF82 (inv : Inv) (k : Nat) (args : Array Value) (h : AH) : Option (Value × AH) := match args with
  | ⟨[x0, x1]⟩ => F82 inv k x0 x1 h
  | args => eFun env k inv 82 args h
theorem sF82_eq (inv : Inv) (k : Nat) (args : Array Value) (h : AH) : sF82 inv k args h = eFun env k inv 82 args h := by
  unfold sF82
  split
  · exact F82_eq.symm
  · rfl
noncomputable def sF83 (inv : Inv) (k : Nat) (args : Array Value) (h : AH) : Option (Value × AH) := match args with
  | ⟨[x0]⟩ => F83 inv k x0 h
  | args => eFun env k inv 83 args h
theorem sF83_eq (inv : Inv) (k : Nat) (args : Array Value) (h : AH) : sF83 inv k args h = eFun env k inv 83 args h := by
  unfold sF83
  split
  · exact F83_eq.symm
  · rfl
noncomputable def sF84 (inv : Inv) (k : Nat) (args : Array Value) (h : AH) : Option (Value × AH) := match args with
  | ⟨[x0]⟩ => F84 inv k x0 h
  | args => eFun env k inv 84 args h
theorem sF84_eq (inv : Inv) (k : Nat) (args : Array Value) (h : AH) : sF84 inv k args h = eFun env k inv 84 args h := by
  unfold sF84
  split
  · exact F84_eq.symm
  · rfl
noncomputable def sF85 (inv : Inv) (k : Nat) (args : Array Value) (h : AH) : Option (Value × AH) := match args with
  | ⟨[x0, x1]⟩ => F85 inv k x0 x1 h
  | args => eFun env k inv 85 args h
theorem sF85_eq (inv : Inv) (k : Nat) (args : Array Value) (h : AH) : sF85 inv k args h = eFun env k inv 85 args h := by
  unfold sF85
  split
  · exact F85_eq.symm
  · rfl
noncomputable def sF86 (inv : Inv) (k : Nat) (args : Array Value) (h : AH) : Option (Value × AH) := match args with
  | ⟨[x0, x1]⟩ => F86 inv k x0 x1 h
  | args => eFun env k inv 86 args h
theorem sF86_eq (inv : Inv) (k : Nat) (args : Array Value) (h : AH) : sF86 inv k args h = eFun env k inv 86 args h := by
  unfold sF86
  split
  · exact F86_eq.symm
  · rfl
noncomputable def sF102 (inv : Inv) (k : Nat) (args : Array Value) (h : AH) : Option (Value × AH) := match args with
  | ⟨[x0]⟩ => F102 inv k x0 h
  | args => eFun env k inv 102 args h
theorem sF102_eq (inv : Inv) (k : Nat) (args : Array Value) (h : AH) : sF102 inv k args h = eFun env k inv 102 args h := by
  unfold sF102
  split
  · exact F102_eq.symm
  · rfl
noncomputable def sF103 (inv : Inv) (k : Nat) (args : Array Value) (h : AH) : Option (Value × AH) := match args with
  | ⟨[x0]⟩ => F103 inv k x0 h
  | args => eFun env k inv 103 args h
theorem sF103_eq (inv : Inv) (k : Nat) (args : Array Value) (h : AH) : sF103 inv k args h = eFun env k inv 103 args h := by
  unfold sF103
  split
  · exact F103_eq.symm
  · rfl
noncomputable def sF104 (inv : Inv) (k : Nat) (args : Array Value) (h : AH) : Option (Value × AH) := match args with
  | ⟨[x0, x1, x2]⟩ => F104 inv k x0 x1 x2 h
  | args => eFun env k inv 104 args h
theorem sF104_eq (inv : Inv) (k : Nat) (args : Array Value) (h : AH) : sF104 inv k args h = eFun env k inv 104 args h := by
  unfold sF104
  split
  · exact F104_eq.symm
  · rfl
noncomputable def sF105 (inv : Inv) (k : Nat) (args : Array Value) (h : AH) : Option (Value × AH) := match args with
  | ⟨[x0, x1]⟩ => F105 inv k x0 x1 h
  | args => eFun env k inv 105 args h
theorem sF105_eq (inv : Inv) (k : Nat) (args : Array Value) (h : AH) : sF105 inv k args h = eFun env k inv 105 args h := by
  unfold sF105
  split
  · exact F105_eq.symm
  · rfl
noncomputable def sF106 (inv : Inv) (k : Nat) (args : Array Value) (h : AH) : Option (Value × AH) := match args with
  | ⟨[x0, x1, x2, x3]⟩ => F106 inv k x0 x1 x2 x3 h
  | args => eFun env k inv 106 args h
theorem sF106_eq (inv : Inv) (k : Nat) (args : Array Value) (h : AH) : sF106 inv k args h = eFun env k inv 106 args h := by
  unfold sF106
  split
  · exact F106_eq.symm
  · rfl
noncomputable def sF107 (inv : Inv) (k : Nat) (args : Array Value) (h : AH) : Option (Value × AH) := match args with
  | ⟨[x0]⟩ => F107 inv k x0 h
  | args => eFun env k inv 107 args h
theorem sF107_eq (inv : Inv) (k : Nat) (args : Array Value) (h : AH) : sF107 inv k args h = eFun env k inv 107 args h := by
  unfold sF107
  split
  · exact F107_eq.symm
  · rfl
noncomputable def sF108 (inv : Inv) (k : Nat) (args : Array Value) (h : AH) : Option (Value × AH) := match args with
  | ⟨[x0, x1, x2]⟩ => F108 inv k x0 x1 x2 h
  | args => eFun env k inv 108 args h
theorem sF108_eq (inv : Inv) (k : Nat) (args : Array Value) (h : AH) : sF108 inv k args h = eFun env k inv 108 args h := by
  unfold sF108
  split
  · exact F108_eq.symm
  · rfl
noncomputable def sF109 (inv : Inv) (k : Nat) (args : Array Value) (h : AH) : Option (Value × AH) := match args with
  | ⟨[x0, x1]⟩ => F109 inv k x0 x1 h
  | args => eFun env k inv 109 args h
theorem sF109_eq (inv : Inv) (k : Nat) (args : Array Value) (h : AH) : sF109 inv k args h = eFun env k inv 109 args h := by
  unfold sF109
  split
  · exact F109_eq.symm
  · rfl
noncomputable def sF110 (inv : Inv) (k : Nat) (args : Array Value) (h : AH) : Option (Value × AH) := match args with
  | ⟨[x0, x1]⟩ => F110 inv k x0 x1 h
  | args => eFun env k inv 110 args h
theorem sF110_eq (inv : Inv) (k : Nat) (args : Array Value) (h : AH) : sF110 inv k args h = eFun env k inv 110 args h := by
  unfold sF110
  split
  · exact F110_eq.symm
  · rfl
noncomputable def sF111 (inv : Inv) (k : Nat) (args : Array Value) (h : AH) : Option (Value × AH) := match args with
  | ⟨[x0, x1]⟩ => F111 inv k x0 x1 h
  | args => eFun env k inv 111 args h
theorem sF111_eq (inv : Inv) (k : Nat) (args : Array Value) (h : AH) : sF111 inv k args h = eFun env k inv 111 args h := by
  unfold sF111
  split
  · exact F111_eq.symm
  · rfl
noncomputable def sF112 (inv : Inv) (k : Nat) (args : Array Value) (h : AH) : Option (Value × AH) := match args with
  | ⟨[x0, x1]⟩ => F112 inv k x0 x1 h
  | args => eFun env k inv 112 args h
theorem sF112_eq (inv : Inv) (k : Nat) (args : Array Value) (h : AH) : sF112 inv k args h = eFun env k inv 112 args h := by
  unfold sF112
  split
  · exact F112_eq.symm
  · rfl
noncomputable def sF113 (inv : Inv) (k : Nat) (args : Array Value) (h : AH) : Option (Value × AH) := match args with
  | ⟨[x0, x1]⟩ => F113 inv k x0 x1 h
  | args => eFun env k inv 113 args h
theorem sF113_eq (inv : Inv) (k : Nat) (args : Array Value) (h : AH) : sF113 inv k args h = eFun env k inv 113 args h := by
  unfold sF113
  split
  · exact F113_eq.symm
  · rfl
noncomputable def sF114 (inv : Inv) (k : Nat) (args : Array Value) (h : AH) : Option (Value × AH) := match args with
  | ⟨[x0, x1, x2]⟩ => F114 inv k x0 x1 x2 h
  | args => eFun env k inv 114 args h
theorem sF114_eq (inv : Inv) (k : Nat) (args : Array Value) (h : AH) : sF114 inv k args h = eFun env k inv 114 args h := by
  unfold sF114
  split
  · exact F114_eq.symm
  · rfl
noncomputable def sF115 (inv : Inv) (k : Nat) (args : Array Value) (h : AH) : Option (Value × AH) := match args with
  | ⟨[x0, x1, x2, x3]⟩ => F115 inv k x0 x1 x2 x3 h
  | args => eFun env k inv 115 args h
theorem sF115_eq (inv : Inv) (k : Nat) (args : Array Value) (h : AH) : sF115 inv k args h = eFun env k inv 115 args h := by
  unfold sF115
  split
  · exact F115_eq.symm
  · rfl
noncomputable def sF116 (inv : Inv) (k : Nat) (args : Array Value) (h : AH) : Option (Value × AH) := match args with
  | ⟨[x0, x1, x2]⟩ => F116 inv k x0 x1 x2 h
  | args => eFun env k inv 116 args h
theorem sF116_eq (inv : Inv) (k : Nat) (args : Array Value) (h : AH) : sF116 inv k args h = eFun env k inv 116 args h := by
  unfold sF116
  split
  · exact F116_eq.symm
  · rfl
noncomputable def sF117 (inv : Inv) (k : Nat) (args : Array Value) (h : AH) : Option (Value × AH) := match args with
  | ⟨[x0, x1]⟩ => F117 inv k x0 x1 h
  | args => eFun env k inv 117 args h
theorem sF117_eq (inv : Inv) (k : Nat) (args : Array Value) (h : AH) : sF117 inv k args h = eFun env k inv 117 args h := by
  unfold sF117
  split
  · exact F117_eq.symm
  · rfl
noncomputable def sF118 (inv : Inv) (k : Nat) (args : Array Value) (h : AH) : Option (Value × AH) := match args with
  | ⟨[x0, x1, x2, x3]⟩ => F118 inv k x0 x1 x2 x3 h
  | args => eFun env k inv 118 args h
theorem sF118_eq (inv : Inv) (k : Nat) (args : Array Value) (h : AH) : sF118 inv k args h = eFun env k inv 118 args h := by
  unfold sF118
  split
  · exact F118_eq.symm
  · rfl
noncomputable def sF119 (inv : Inv) (k : Nat) (args : Array Value) (h : AH) : Option (Value × AH) := match args with
  | ⟨[x0, x1]⟩ => F119 inv k x0 x1 h
  | args => eFun env k inv 119 args h
theorem sF119_eq (inv : Inv) (k : Nat) (args : Array Value) (h : AH) : sF119 inv k args h = eFun env k inv 119 args h := by
  unfold sF119
  split
  · exact F119_eq.symm
  · rfl
noncomputable def sF121 (inv : Inv) (k : Nat) (args : Array Value) (h : AH) : Option (Value × AH) := match args with
  | ⟨[x0]⟩ => F121 inv k x0 h
  | args => eFun env k inv 121 args h
theorem sF121_eq (inv : Inv) (k : Nat) (args : Array Value) (h : AH) : sF121 inv k args h = eFun env k inv 121 args h := by
  unfold sF121
  split
  · exact F121_eq.symm
  · rfl
noncomputable def sF122 (inv : Inv) (k : Nat) (args : Array Value) (h : AH) : Option (Value × AH) := match args with
  | ⟨[x0, x1]⟩ => F122 inv k x0 x1 h
  | args => eFun env k inv 122 args h
theorem sF122_eq (inv : Inv) (k : Nat) (args : Array Value) (h : AH) : sF122 inv k args h = eFun env k inv 122 args h := by
  unfold sF122
  split
  · exact F122_eq.symm
  · rfl
noncomputable def sF123 (inv : Inv) (k : Nat) (args : Array Value) (h : AH) : Option (Value × AH) := match args with
  | ⟨[x0, x1]⟩ => F123 inv k x0 x1 h
  | args => eFun env k inv 123 args h
theorem sF123_eq (inv : Inv) (k : Nat) (args : Array Value) (h : AH) : sF123 inv k args h = eFun env k inv 123 args h := by
  unfold sF123
  split
  · exact F123_eq.symm
  · rfl
noncomputable def sF124 (inv : Inv) (k : Nat) (args : Array Value) (h : AH) : Option (Value × AH) := match args with
  | ⟨[x0, x1]⟩ => F124 inv k x0 x1 h
  | args => eFun env k inv 124 args h
theorem sF124_eq (inv : Inv) (k : Nat) (args : Array Value) (h : AH) : sF124 inv k args h = eFun env k inv 124 args h := by
  unfold sF124
  split
  · exact F124_eq.symm
  · rfl
noncomputable def sF125 (inv : Inv) (k : Nat) (args : Array Value) (h : AH) : Option (Value × AH) := match args with
  | ⟨[x0]⟩ => F125 inv k x0 h
  | args => eFun env k inv 125 args h
theorem sF125_eq (inv : Inv) (k : Nat) (args : Array Value) (h : AH) : sF125 inv k args h = eFun env k inv 125 args h := by
  unfold sF125
  split
  · exact F125_eq.symm
  · rfl
noncomputable def sF126 (inv : Inv) (k : Nat) (args : Array Value) (h : AH) : Option (Value × AH) := match args with
  | ⟨[x0]⟩ => F126 inv k x0 h
  | args => eFun env k inv 126 args h
theorem sF126_eq (inv : Inv) (k : Nat) (args : Array Value) (h : AH) : sF126 inv k args h = eFun env k inv 126 args h := by
  unfold sF126
  split
  · exact F126_eq.symm
  · rfl
noncomputable def sF127 (inv : Inv) (k : Nat) (args : Array Value) (h : AH) : Option (Value × AH) := match args with
  | ⟨[x0, x1]⟩ => F127 inv k x0 x1 h
  | args => eFun env k inv 127 args h
theorem sF127_eq (inv : Inv) (k : Nat) (args : Array Value) (h : AH) : sF127 inv k args h = eFun env k inv 127 args h := by
  unfold sF127
  split
  · exact F127_eq.symm
  · rfl
noncomputable def sF134 (inv : Inv) (k : Nat) (args : Array Value) (h : AH) : Option (Value × AH) := match args with
  | ⟨[x0, x1]⟩ => F134 inv k x0 x1 h
  | args => eFun env k inv 134 args h
theorem sF134_eq (inv : Inv) (k : Nat) (args : Array Value) (h : AH) : sF134 inv k args h = eFun env k inv 134 args h := by
  unfold sF134
  split
  · exact F134_eq.symm
  · rfl
noncomputable def sF135 (inv : Inv) (k : Nat) (args : Array Value) (h : AH) : Option (Value × AH) := match args with
  | ⟨[x0, x1]⟩ => F135 inv k x0 x1 h
  | args => eFun env k inv 135 args h
theorem sF135_eq (inv : Inv) (k : Nat) (args : Array Value) (h : AH) : sF135 inv k args h = eFun env k inv 135 args h := by
  unfold sF135
  split
  · exact F135_eq.symm
  · rfl
noncomputable def sF136 (inv : Inv) (k : Nat) (args : Array Value) (h : AH) : Option (Value × AH) := match args with
  | ⟨[x0]⟩ => F136 inv k x0 h
  | args => eFun env k inv 136 args h
theorem sF136_eq (inv : Inv) (k : Nat) (args : Array Value) (h : AH) : sF136 inv k args h = eFun env k inv 136 args h := by
  unfold sF136
  split
  · exact F136_eq.symm
  · rfl
noncomputable def sF137 (inv : Inv) (k : Nat) (args : Array Value) (h : AH) : Option (Value × AH) := match args with
  | ⟨[x0, x1]⟩ => F137 inv k x0 x1 h
  | args => eFun env k inv 137 args h
theorem sF137_eq (inv : Inv) (k : Nat) (args : Array Value) (h : AH) : sF137 inv k args h = eFun env k inv 137 args h := by
  unfold sF137
  split
  · exact F137_eq.symm
  · rfl
noncomputable def sF138 (inv : Inv) (k : Nat) (args : Array Value) (h : AH) : Option (Value × AH) := match args with
  | ⟨[x0, x1]⟩ => F138 inv k x0 x1 h
  | args => eFun env k inv 138 args h
theorem sF138_eq (inv : Inv) (k : Nat) (args : Array Value) (h : AH) : sF138 inv k args h = eFun env k inv 138 args h := by
  unfold sF138
  split
  · exact F138_eq.symm
  · rfl
noncomputable def sF139 (inv : Inv) (k : Nat) (args : Array Value) (h : AH) : Option (Value × AH) := match args with
  | ⟨[x0, x1]⟩ => F139 inv k x0 x1 h
  | args => eFun env k inv 139 args h
theorem sF139_eq (inv : Inv) (k : Nat) (args : Array Value) (h : AH) : sF139 inv k args h = eFun env k inv 139 args h := by
  unfold sF139
  split
  · exact F139_eq.symm
  · rfl
noncomputable def sF140 (inv : Inv) (k : Nat) (args : Array Value) (h : AH) : Option (Value × AH) := match args with
  | ⟨[x0, x1]⟩ => F140 inv k x0 x1 h
  | args => eFun env k inv 140 args h
theorem sF140_eq (inv : Inv) (k : Nat) (args : Array Value) (h : AH) : sF140 inv k args h = eFun env k inv 140 args h := by
  unfold sF140
  split
  · exact F140_eq.symm
  · rfl
noncomputable def sF141 (inv : Inv) (k : Nat) (args : Array Value) (h : AH) : Option (Value × AH) := match args with
  | ⟨[x0]⟩ => F141 inv k x0 h
  | args => eFun env k inv 141 args h
theorem sF141_eq (inv : Inv) (k : Nat) (args : Array Value) (h : AH) : sF141 inv k args h = eFun env k inv 141 args h := by
  unfold sF141
  split
  · exact F141_eq.symm
  · rfl
noncomputable def sF142 (inv : Inv) (k : Nat) (args : Array Value) (h : AH) : Option (Value × AH) := match args with
  | ⟨[x0, x1]⟩ => F142 inv k x0 x1 h
  | args => eFun env k inv 142 args h
theorem sF142_eq (inv : Inv) (k : Nat) (args : Array Value) (h : AH) : sF142 inv k args h = eFun env k inv 142 args h := by
  unfold sF142
  split
  · exact F142_eq.symm
  · rfl
noncomputable def sF143 (inv : Inv) (k : Nat) (args : Array Value) (h : AH) : Option (Value × AH) := match args with
  | ⟨[x0, x1]⟩ => F143 inv k x0 x1 h
  | args => eFun env k inv 143 args h
theorem sF143_eq (inv : Inv) (k : Nat) (args : Array Value) (h : AH) : sF143 inv k args h = eFun env k inv 143 args h := by
  unfold sF143
  split
  · exact F143_eq.symm
  · rfl
noncomputable def sF144 (inv : Inv) (k : Nat) (args : Array Value) (h : AH) : Option (Value × AH) := match args with
  | ⟨[x0, x1]⟩ => F144 inv k x0 x1 h
  | args => eFun env k inv 144 args h
theorem sF144_eq (inv : Inv) (k : Nat) (args : Array Value) (h : AH) : sF144 inv k args h = eFun env k inv 144 args h := by
  unfold sF144
  split
  · exact F144_eq.symm
  · rfl
noncomputable def sF145 (inv : Inv) (k : Nat) (args : Array Value) (h : AH) : Option (Value × AH) := match args with
  | ⟨[x0, x1]⟩ => F145 inv k x0 x1 h
  | args => eFun env k inv 145 args h
theorem sF145_eq (inv : Inv) (k : Nat) (args : Array Value) (h : AH) : sF145 inv k args h = eFun env k inv 145 args h := by
  unfold sF145
  split
  · exact F145_eq.symm
  · rfl
noncomputable def sF146 (inv : Inv) (k : Nat) (args : Array Value) (h : AH) : Option (Value × AH) := match args with
  | ⟨[x0, x1]⟩ => F146 inv k x0 x1 h
  | args => eFun env k inv 146 args h
theorem sF146_eq (inv : Inv) (k : Nat) (args : Array Value) (h : AH) : sF146 inv k args h = eFun env k inv 146 args h := by
  unfold sF146
  split
  · exact F146_eq.symm
  · rfl
noncomputable def sF147 (inv : Inv) (k : Nat) (args : Array Value) (h : AH) : Option (Value × AH) := match args with
  | ⟨[x0, x1, x2]⟩ => F147 inv k x0 x1 x2 h
  | args => eFun env k inv 147 args h
theorem sF147_eq (inv : Inv) (k : Nat) (args : Array Value) (h : AH) : sF147 inv k args h = eFun env k inv 147 args h := by
  unfold sF147
  split
  · exact F147_eq.symm
  · rfl
noncomputable def sF148 (inv : Inv) (k : Nat) (args : Array Value) (h : AH) : Option (Value × AH) := match args with
  | ⟨[x0, x1]⟩ => F148 inv k x0 x1 h
  | args => eFun env k inv 148 args h
theorem sF148_eq (inv : Inv) (k : Nat) (args : Array Value) (h : AH) : sF148 inv k args h = eFun env k inv 148 args h := by
  unfold sF148
  split
  · exact F148_eq.symm
  · rfl
noncomputable def sF149 (inv : Inv) (k : Nat) (args : Array Value) (h : AH) : Option (Value × AH) := match args with
  | ⟨[x0]⟩ => F149 inv k x0 h
  | args => eFun env k inv 149 args h
theorem sF149_eq (inv : Inv) (k : Nat) (args : Array Value) (h : AH) : sF149 inv k args h = eFun env k inv 149 args h := by
  unfold sF149
  split
  · exact F149_eq.symm
  · rfl
noncomputable def sF150 (inv : Inv) (k : Nat) (args : Array Value) (h : AH) : Option (Value × AH) := match args with
  | ⟨[x0]⟩ => F150 inv k x0 h
  | args => eFun env k inv 150 args h
theorem sF150_eq (inv : Inv) (k : Nat) (args : Array Value) (h : AH) : sF150 inv k args h = eFun env k inv 150 args h := by
  unfold sF150
  split
  · exact F150_eq.symm
  · rfl
noncomputable def sF151 (inv : Inv) (k : Nat) (args : Array Value) (h : AH) : Option (Value × AH) := match args with
  | ⟨[x0]⟩ => F151 inv k x0 h
  | args => eFun env k inv 151 args h
theorem sF151_eq (inv : Inv) (k : Nat) (args : Array Value) (h : AH) : sF151 inv k args h = eFun env k inv 151 args h := by
  unfold sF151
  split
  · exact F151_eq.symm
  · rfl
noncomputable def sF152 (inv : Inv) (k : Nat) (args : Array Value) (h : AH) : Option (Value × AH) := match args with
  | ⟨[x0]⟩ => F152 inv k x0 h
  | args => eFun env k inv 152 args h
theorem sF152_eq (inv : Inv) (k : Nat) (args : Array Value) (h : AH) : sF152 inv k args h = eFun env k inv 152 args h := by
  unfold sF152
  split
  · exact F152_eq.symm
  · rfl
noncomputable def sF153 (inv : Inv) (k : Nat) (args : Array Value) (h : AH) : Option (Value × AH) := match args with
  | ⟨[x0, x1]⟩ => F153 inv k x0 x1 h
  | args => eFun env k inv 153 args h
theorem sF153_eq (inv : Inv) (k : Nat) (args : Array Value) (h : AH) : sF153 inv k args h = eFun env k inv 153 args h := by
  unfold sF153
  split
  · exact F153_eq.symm
  · rfl
noncomputable def sF154 (inv : Inv) (k : Nat) (args : Array Value) (h : AH) : Option (Value × AH) := match args with
  | ⟨[x0]⟩ => F154 inv k x0 h
  | args => eFun env k inv 154 args h
theorem sF154_eq (inv : Inv) (k : Nat) (args : Array Value) (h : AH) : sF154 inv k args h = eFun env k inv 154 args h := by
  unfold sF154
  split
  · exact F154_eq.symm
  · rfl
noncomputable def sF159 (inv : Inv) (k : Nat) (args : Array Value) (h : AH) : Option (Value × AH) := match args with
  | ⟨[x0, x1]⟩ => F159 inv k x0 x1 h
  | args => eFun env k inv 159 args h
theorem sF159_eq (inv : Inv) (k : Nat) (args : Array Value) (h : AH) : sF159 inv k args h = eFun env k inv 159 args h := by
  unfold sF159
  split
  · exact F159_eq.symm
  · rfl
noncomputable def sF160 (inv : Inv) (k : Nat) (args : Array Value) (h : AH) : Option (Value × AH) := match args with
  | ⟨[x0, x1]⟩ => F160 inv k x0 x1 h
  | args => eFun env k inv 160 args h
theorem sF160_eq (inv : Inv) (k : Nat) (args : Array Value) (h : AH) : sF160 inv k args h = eFun env k inv 160 args h := by
  unfold sF160
  split
  · exact F160_eq.symm
  · rfl
noncomputable def sF161 (inv : Inv) (k : Nat) (args : Array Value) (h : AH) : Option (Value × AH) := match args with
  | ⟨[x0, x1, x2]⟩ => F161 inv k x0 x1 x2 h
  | args => eFun env k inv 161 args h
theorem sF161_eq (inv : Inv) (k : Nat) (args : Array Value) (h : AH) : sF161 inv k args h = eFun env k inv 161 args h := by
  unfold sF161
  split
  · exact F161_eq.symm
  · rfl
noncomputable def sF162 (inv : Inv) (k : Nat) (args : Array Value) (h : AH) : Option (Value × AH) := match args with
  | ⟨[x0, x1]⟩ => F162 inv k x0 x1 h
  | args => eFun env k inv 162 args h
theorem sF162_eq (inv : Inv) (k : Nat) (args : Array Value) (h : AH) : sF162 inv k args h = eFun env k inv 162 args h := by
  unfold sF162
  split
  · exact F162_eq.symm
  · rfl
noncomputable def sF163 (inv : Inv) (k : Nat) (args : Array Value) (h : AH) : Option (Value × AH) := match args with
  | ⟨[x0, x1]⟩ => F163 inv k x0 x1 h
  | args => eFun env k inv 163 args h
theorem sF163_eq (inv : Inv) (k : Nat) (args : Array Value) (h : AH) : sF163 inv k args h = eFun env k inv 163 args h := by
  unfold sF163
  split
  · exact F163_eq.symm
  · rfl
noncomputable def sF164 (inv : Inv) (k : Nat) (args : Array Value) (h : AH) : Option (Value × AH) := match args with
  | ⟨[x0, x1]⟩ => F164 inv k x0 x1 h
  | args => eFun env k inv 164 args h
theorem sF164_eq (inv : Inv) (k : Nat) (args : Array Value) (h : AH) : sF164 inv k args h = eFun env k inv 164 args h := by
  unfold sF164
  split
  · exact F164_eq.symm
  · rfl
noncomputable def sF165 (inv : Inv) (k : Nat) (args : Array Value) (h : AH) : Option (Value × AH) := match args with
  | ⟨[x0]⟩ => F165 inv k x0 h
  | args => eFun env k inv 165 args h
theorem sF165_eq (inv : Inv) (k : Nat) (args : Array Value) (h : AH) : sF165 inv k args h = eFun env k inv 165 args h := by
  unfold sF165
  split
  · exact F165_eq.symm
  · rfl
noncomputable def sF166 (inv : Inv) (k : Nat) (args : Array Value) (h : AH) : Option (Value × AH) := match args with
  | ⟨[]⟩ => F166 inv k  h
  | args => eFun env k inv 166 args h
theorem sF166_eq (inv : Inv) (k : Nat) (args : Array Value) (h : AH) : sF166 inv k args h = eFun env k inv 166 args h := by
  unfold sF166
  split
  · exact F166_eq.symm
  · rfl
noncomputable def sF167 (inv : Inv) (k : Nat) (args : Array Value) (h : AH) : Option (Value × AH) := match args with
  | ⟨[x0]⟩ => F167 inv k x0 h
  | args => eFun env k inv 167 args h
theorem sF167_eq (inv : Inv) (k : Nat) (args : Array Value) (h : AH) : sF167 inv k args h = eFun env k inv 167 args h := by
  unfold sF167
  split
  · exact F167_eq.symm
  · rfl
noncomputable def sF168 (inv : Inv) (k : Nat) (args : Array Value) (h : AH) : Option (Value × AH) := match args with
  | ⟨[x0, x1]⟩ => F168 inv k x0 x1 h
  | args => eFun env k inv 168 args h
theorem sF168_eq (inv : Inv) (k : Nat) (args : Array Value) (h : AH) : sF168 inv k args h = eFun env k inv 168 args h := by
  unfold sF168
  split
  · exact F168_eq.symm
  · rfl
noncomputable def sF169 (inv : Inv) (k : Nat) (args : Array Value) (h : AH) : Option (Value × AH) := match args with
  | ⟨[x0, x1, x2]⟩ => F169 inv k x0 x1 x2 h
  | args => eFun env k inv 169 args h
theorem sF169_eq (inv : Inv) (k : Nat) (args : Array Value) (h : AH) : sF169 inv k args h = eFun env k inv 169 args h := by
  unfold sF169
  split
  · exact F169_eq.symm
  · rfl
noncomputable def sF170 (inv : Inv) (k : Nat) (args : Array Value) (h : AH) : Option (Value × AH) := match args with
  | ⟨[x0, x1, x2]⟩ => F170 inv k x0 x1 x2 h
  | args => eFun env k inv 170 args h
theorem sF170_eq (inv : Inv) (k : Nat) (args : Array Value) (h : AH) : sF170 inv k args h = eFun env k inv 170 args h := by
  unfold sF170
  split
  · exact F170_eq.symm
  · rfl
noncomputable def sF171 (inv : Inv) (k : Nat) (args : Array Value) (h : AH) : Option (Value × AH) := match args with
  | ⟨[x0, x1]⟩ => F171 inv k x0 x1 h
  | args => eFun env k inv 171 args h
theorem sF171_eq (inv : Inv) (k : Nat) (args : Array Value) (h : AH) : sF171 inv k args h = eFun env k inv 171 args h := by
  unfold sF171
  split
  · exact F171_eq.symm
  · rfl
noncomputable def sF172 (inv : Inv) (k : Nat) (args : Array Value) (h : AH) : Option (Value × AH) := match args with
  | ⟨[x0, x1]⟩ => F172 inv k x0 x1 h
  | args => eFun env k inv 172 args h
theorem sF172_eq (inv : Inv) (k : Nat) (args : Array Value) (h : AH) : sF172 inv k args h = eFun env k inv 172 args h := by
  unfold sF172
  split
  · exact F172_eq.symm
  · rfl
noncomputable def sF173 (inv : Inv) (k : Nat) (args : Array Value) (h : AH) : Option (Value × AH) := match args with
  | ⟨[x0, x1]⟩ => F173 inv k x0 x1 h
  | args => eFun env k inv 173 args h
theorem sF173_eq (inv : Inv) (k : Nat) (args : Array Value) (h : AH) : sF173 inv k args h = eFun env k inv 173 args h := by
  unfold sF173
  split
  · exact F173_eq.symm
  · rfl
noncomputable def sF174 (inv : Inv) (k : Nat) (args : Array Value) (h : AH) : Option (Value × AH) := match args with
  | ⟨[x0, x1]⟩ => F174 inv k x0 x1 h
  | args => eFun env k inv 174 args h
theorem sF174_eq (inv : Inv) (k : Nat) (args : Array Value) (h : AH) : sF174 inv k args h = eFun env k inv 174 args h := by
  unfold sF174
  split
  · exact F174_eq.symm
  · rfl
noncomputable def sF175 (inv : Inv) (k : Nat) (args : Array Value) (h : AH) : Option (Value × AH) := match args with
  | ⟨[x0]⟩ => F175 inv k x0 h
  | args => eFun env k inv 175 args h
theorem sF175_eq (inv : Inv) (k : Nat) (args : Array Value) (h : AH) : sF175 inv k args h = eFun env k inv 175 args h := by
  unfold sF175
  split
  · exact F175_eq.symm
  · rfl
noncomputable def sF176 (inv : Inv) (k : Nat) (args : Array Value) (h : AH) : Option (Value × AH) := match args with
  | ⟨[x0]⟩ => F176 inv k x0 h
  | args => eFun env k inv 176 args h
theorem sF176_eq (inv : Inv) (k : Nat) (args : Array Value) (h : AH) : sF176 inv k args h = eFun env k inv 176 args h := by
  unfold sF176
  split
  · exact F176_eq.symm
  · rfl
noncomputable def sF177 (inv : Inv) (k : Nat) (args : Array Value) (h : AH) : Option (Value × AH) := match args with
  | ⟨[x0, x1]⟩ => F177 inv k x0 x1 h
  | args => eFun env k inv 177 args h
theorem sF177_eq (inv : Inv) (k : Nat) (args : Array Value) (h : AH) : sF177 inv k args h = eFun env k inv 177 args h := by
  unfold sF177
  split
  · exact F177_eq.symm
  · rfl
noncomputable def sF178 (inv : Inv) (k : Nat) (args : Array Value) (h : AH) : Option (Value × AH) := match args with
  | ⟨[x0, x1]⟩ => F178 inv k x0 x1 h
  | args => eFun env k inv 178 args h
theorem sF178_eq (inv : Inv) (k : Nat) (args : Array Value) (h : AH) : sF178 inv k args h = eFun env k inv 178 args h := by
  unfold sF178
  split
  · exact F178_eq.symm
  · rfl
noncomputable def sF180 (inv : Inv) (k : Nat) (args : Array Value) (h : AH) : Option (Value × AH) := match args with
  | ⟨[x0]⟩ => F180 inv k x0 h
  | args => eFun env k inv 180 args h
theorem sF180_eq (inv : Inv) (k : Nat) (args : Array Value) (h : AH) : sF180 inv k args h = eFun env k inv 180 args h := by
  unfold sF180
  split
  · exact F180_eq.symm
  · rfl
noncomputable def sF181 (inv : Inv) (k : Nat) (args : Array Value) (h : AH) : Option (Value × AH) := match args with
  | ⟨[x0, x1]⟩ => F181 inv k x0 x1 h
  | args => eFun env k inv 181 args h
theorem sF181_eq (inv : Inv) (k : Nat) (args : Array Value) (h : AH) : sF181 inv k args h = eFun env k inv 181 args h := by
  unfold sF181
  split
  · exact F181_eq.symm
  · rfl
noncomputable def sF184 (inv : Inv) (k : Nat) (args : Array Value) (h : AH) : Option (Value × AH) := match args with
  | ⟨[x0]⟩ => F184 inv k x0 h
  | args => eFun env k inv 184 args h
theorem sF184_eq (inv : Inv) (k : Nat) (args : Array Value) (h : AH) : sF184 inv k args h = eFun env k inv 184 args h := by
  unfold sF184
  split
  · exact F184_eq.symm
  · rfl
noncomputable def sF185 (inv : Inv) (k : Nat) (args : Array Value) (h : AH) : Option (Value × AH) := match args with
  | ⟨[x0, x1]⟩ => F185 inv k x0 x1 h
  | args => eFun env k inv 185 args h
theorem sF185_eq (inv : Inv) (k : Nat) (args : Array Value) (h : AH) : sF185 inv k args h = eFun env k inv 185 args h := by
  unfold sF185
  split
  · exact F185_eq.symm
  · rfl
noncomputable def sF186 (inv : Inv) (k : Nat) (args : Array Value) (h : AH) : Option (Value × AH) := match args with
  | ⟨[x0, x1]⟩ => F186 inv k x0 x1 h
  | args => eFun env k inv 186 args h
theorem sF186_eq (inv : Inv) (k : Nat) (args : Array Value) (h : AH) : sF186 inv k args h = eFun env k inv 186 args h := by
  unfold sF186
  split
  · exact F186_eq.symm
  · rfl
noncomputable def sF187 (inv : Inv) (k : Nat) (args : Array Value) (h : AH) : Option (Value × AH) := match args with
  | ⟨[x0]⟩ => F187 inv k x0 h
  | args => eFun env k inv 187 args h
theorem sF187_eq (inv : Inv) (k : Nat) (args : Array Value) (h : AH) : sF187 inv k args h = eFun env k inv 187 args h := by
  unfold sF187
  split
  · exact F187_eq.symm
  · rfl
noncomputable def sF188 (inv : Inv) (k : Nat) (args : Array Value) (h : AH) : Option (Value × AH) := match args with
  | ⟨[x0]⟩ => F188 inv k x0 h
  | args => eFun env k inv 188 args h
theorem sF188_eq (inv : Inv) (k : Nat) (args : Array Value) (h : AH) : sF188 inv k args h = eFun env k inv 188 args h := by
  unfold sF188
  split
  · exact F188_eq.symm
  · rfl
noncomputable def sF189 (inv : Inv) (k : Nat) (args : Array Value) (h : AH) : Option (Value × AH) := match args with
  | ⟨[x0]⟩ => F189 inv k x0 h
  | args => eFun env k inv 189 args h
theorem sF189_eq (inv : Inv) (k : Nat) (args : Array Value) (h : AH) : sF189 inv k args h = eFun env k inv 189 args h := by
  unfold sF189
  split
  · exact F189_eq.symm
  · rfl
noncomputable def sF190 (inv : Inv) (k : Nat) (args : Array Value) (h : AH) : Option (Value × AH) := match args with
  | ⟨[x0, x1]⟩ => F190 inv k x0 x1 h
  | args => eFun env k inv 190 args h
theorem sF190_eq (inv : Inv) (k : Nat) (args : Array Value) (h : AH) : sF190 inv k args h = eFun env k inv 190 args h := by
  unfold sF190
  split
  · exact F190_eq.symm
  · rfl
noncomputable def sF191 (inv : Inv) (k : Nat) (args : Array Value) (h : AH) : Option (Value × AH) := match args with
  | ⟨[x0]⟩ => F191 inv k x0 h
  | args => eFun env k inv 191 args h
theorem sF191_eq (inv : Inv) (k : Nat) (args : Array Value) (h : AH) : sF191 inv k args h = eFun env k inv 191 args h := by
  unfold sF191
  split
  · exact F191_eq.symm
  · rfl
noncomputable def sF192 (inv : Inv) (k : Nat) (args : Array Value) (h : AH) : Option (Value × AH) := match args with
  | ⟨[x0]⟩ => F192 inv k x0 h
  | args => eFun env k inv 192 args h
theorem sF192_eq (inv : Inv) (k : Nat) (args : Array Value) (h : AH) : sF192 inv k args h = eFun env k inv 192 args h := by
  unfold sF192
  split
  · exact F192_eq.symm
  · rfl
noncomputable def sF193 (inv : Inv) (k : Nat) (args : Array Value) (h : AH) : Option (Value × AH) := match args with
  | ⟨[x0, x1]⟩ => F193 inv k x0 x1 h
  | args => eFun env k inv 193 args h
theorem sF193_eq (inv : Inv) (k : Nat) (args : Array Value) (h : AH) : sF193 inv k args h = eFun env k inv 193 args h := by
  unfold sF193
  split
  · exact F193_eq.symm
  · rfl
noncomputable def sF196 (inv : Inv) (k : Nat) (args : Array Value) (h : AH) : Option (Value × AH) := match args with
  | ⟨[x0, x1]⟩ => F196 inv k x0 x1 h
  | args => eFun env k inv 196 args h
theorem sF196_eq (inv : Inv) (k : Nat) (args : Array Value) (h : AH) : sF196 inv k args h = eFun env k inv 196 args h := by
  unfold sF196
  split
  · exact F196_eq.symm
  · rfl
noncomputable def sF197 (inv : Inv) (k : Nat) (args : Array Value) (h : AH) : Option (Value × AH) := match args with
  | ⟨[x0, x1]⟩ => F197 inv k x0 x1 h
  | args => eFun env k inv 197 args h
theorem sF197_eq (inv : Inv) (k : Nat) (args : Array Value) (h : AH) : sF197 inv k args h = eFun env k inv 197 args h := by
  unfold sF197
  split
  · exact F197_eq.symm
  · rfl
noncomputable def sF236 (inv : Inv) (k : Nat) (args : Array Value) (h : AH) : Option (Value × AH) := match args with
  | ⟨[x0, x1]⟩ => F236 inv k x0 x1 h
  | args => eFun env k inv 236 args h
theorem sF236_eq (inv : Inv) (k : Nat) (args : Array Value) (h : AH) : sF236 inv k args h = eFun env k inv 236 args h := by
  unfold sF236
  split
  · exact F236_eq.symm
  · rfl
noncomputable def sF238 (inv : Inv) (k : Nat) (args : Array Value) (h : AH) : Option (Value × AH) := match args with
  | ⟨[x0]⟩ => F238 inv k x0 h
  | args => eFun env k inv 238 args h
theorem sF238_eq (inv : Inv) (k : Nat) (args : Array Value) (h : AH) : sF238 inv k args h = eFun env k inv 238 args h := by
  unfold sF238
  split
  · exact F238_eq.symm
  · rfl
noncomputable def sF239 (inv : Inv) (k : Nat) (args : Array Value) (h : AH) : Option (Value × AH) := match args with
  | ⟨[x0, x1]⟩ => F239 inv k x0 x1 h
  | args => eFun env k inv 239 args h
theorem sF239_eq (inv : Inv) (k : Nat) (args : Array Value) (h : AH) : sF239 inv k args h = eFun env k inv 239 args h := by
  unfold sF239
  split
  · exact F239_eq.symm
  · rfl
noncomputable def sF241 (inv : Inv) (k : Nat) (args : Array Value) (h : AH) : Option (Value × AH) := match args with
  | ⟨[x0]⟩ => F241 inv k x0 h
  | args => eFun env k inv 241 args h
theorem sF241_eq (inv : Inv) (k : Nat) (args : Array Value) (h : AH) : sF241 inv k args h = eFun env k inv 241 args h := by
  unfold sF241
  split
  · exact F241_eq.symm
  · rfl
noncomputable def sF242 (inv : Inv) (k : Nat) (args : Array Value) (h : AH) : Option (Value × AH) := match args with
  | ⟨[x0, x1]⟩ => F242 inv k x0 x1 h
  | args => eFun env k inv 242 args h
theorem sF242_eq (inv : Inv) (k : Nat) (args : Array Value) (h : AH) : sF242 inv k args h = eFun env k inv 242 args h := by
  unfold sF242
  split
  · exact F242_eq.symm
  · rfl
noncomputable def sF243 (inv : Inv) (k : Nat) (args : Array Value) (h : AH) : Option (Value × AH) := match args with
  | ⟨[x0, x1]⟩ => F243 inv k x0 x1 h
  | args => eFun env k inv 243 args h
theorem sF243_eq (inv : Inv) (k : Nat) (args : Array Value) (h : AH) : sF243 inv k args h = eFun env k inv 243 args h := by
  unfold sF243
  split
  · exact F243_eq.symm
  · rfl
noncomputable def sF245 (inv : Inv) (k : Nat) (args : Array Value) (h : AH) : Option (Value × AH) := match args with
  | ⟨[x0]⟩ => F245 inv k x0 h
  | args => eFun env k inv 245 args h
theorem sF245_eq (inv : Inv) (k : Nat) (args : Array Value) (h : AH) : sF245 inv k args h = eFun env k inv 245 args h := by
  unfold sF245
  split
  · exact F245_eq.symm
  · rfl
noncomputable def sF246 (inv : Inv) (k : Nat) (args : Array Value) (h : AH) : Option (Value × AH) := match args with
  | ⟨[x0, x1]⟩ => F246 inv k x0 x1 h
  | args => eFun env k inv 246 args h
theorem sF246_eq (inv : Inv) (k : Nat) (args : Array Value) (h : AH) : sF246 inv k args h = eFun env k inv 246 args h := by
  unfold sF246
  split
  · exact F246_eq.symm
  · rfl
def pickF {α : Type} (d : α) : List (Nat × α) → Nat → α
  | [], _ => d
  | (i, x) :: l, j => bif Nat.beq i j then x else pickF d l j
theorem pickF_spec {α : Type} {d : α} {j : Nat} (P : Nat → α → Prop) (hd : P j d) : ∀ (l : List (Nat × α)), (∀ p ∈ l, P p.1 p.2) → P j (pickF d l j)
  | [], _ => hd
  | (i, x) :: l, h => by
    unfold pickF
    cases q : Nat.beq i j
    · exact pickF_spec P hd l fun p hp => h p (List.mem_cons_of_mem _ hp)
    · have : i = j := Nat.eq_of_beq_eq_true q
      subst this
      exact h _ (List.mem_cons_self ..)
noncomputable def sTab (inv : Inv) (k : Nat) : List (Nat × (Array Value → AH → Option (Value × AH))) := [(8, sF8 inv k), (11, sF11 inv k), (14, sF14 inv k), (15, sF15 inv k), (16, sF16 inv k), (19, sF19 inv k), (20, sF20 inv k), (21, sF21 inv k), (22, sF22 inv k), (23, sF23 inv k), (24, sF24 inv k), (25, sF25 inv k), (30, sF30 inv k), (32, sF32 inv k), (33, sF33 inv k), (34, sF34 inv k), (35, sF35 inv k), (36, sF36 inv k), (37, sF37 inv k), (39, sF39 inv k), (40, sF40 inv k), (42, sF42 inv k), (43, sF43 inv k), (44, sF44 inv k), (45, sF45 inv k), (46, sF46 inv k), (47, sF47 inv k), (48, sF48 inv k), (49, sF49 inv k), (50, sF50 inv k), (62, sF62 inv k), (63, sF63 inv k), (64, sF64 inv k), (67, sF67 inv k), (68, sF68 inv k), (69, sF69 inv k), (70, sF70 inv k), (71, sF71 inv k), (72, sF72 inv k), (73, sF73 inv k), (74, sF74 inv k), (75, sF75 inv k), (76, sF76 inv k), (77, sF77 inv k), (81, sF81 inv k), (82, sF82 inv k), (83, sF83 inv k), (84, sF84 inv k), (85, sF85 inv k), (86, sF86 inv k), (102, sF102 inv k), (103, sF103 inv k), (104, sF104 inv k), (105, sF105 inv k), (106, sF106 inv k), (107, sF107 inv k), (108, sF108 inv k), (109, sF109 inv k), (110, sF110 inv k), (111, sF111 inv k), (112, sF112 inv k), (113, sF113 inv k), (114, sF114 inv k), (115, sF115 inv k), (116, sF116 inv k), (117, sF117 inv k), (118, sF118 inv k), (119, sF119 inv k), (121, sF121 inv k), (122, sF122 inv k), (123, sF123 inv k), (124, sF124 inv k), (125, sF125 inv k), (126, sF126 inv k), (127, sF127 inv k), (134, sF134 inv k), (135, sF135 inv k), (136, sF136 inv k), (137, sF137 inv k), (138, sF138 inv k), (139, sF139 inv k), (140, sF140 inv k), (141, sF141 inv k), (142, sF142 inv k), (143, sF143 inv k), (144, sF144 inv k), (145, sF145 inv k), (146, sF146 inv k), (147, sF147 inv k), (148, sF148 inv k), (149, sF149 inv k), (150, sF150 inv k), (151, sF151 inv k), (152, sF152 inv k), (153, sF153 inv k), (154, sF154 inv k), (159, sF159 inv k), (160, sF160 inv k), (161, sF161 inv k), (162, sF162 inv k), (163, sF163 inv k), (164, sF164 inv k), (165, sF165 inv k), (166, sF166 inv k), (167, sF167 inv k), (168, sF168 inv k), (169, sF169 inv k), (170, sF170 inv k), (171, sF171 inv k), (172, sF172 inv k), (173, sF173 inv k), (174, sF174 inv k), (175, sF175 inv k), (176, sF176 inv k), (177, sF177 inv k), (178, sF178 inv k), (180, sF180 inv k), (181, sF181 inv k), (184, sF184 inv k), (185, sF185 inv k), (186, sF186 inv k), (187, sF187 inv k), (188, sF188 inv k), (189, sF189 inv k), (190, sF190 inv k), (191, sF191 inv k), (192, sF192 inv k), (193, sF193 inv k), (196, sF196 inv k), (197, sF197 inv k), (236, sF236 inv k), (238, sF238 inv k), (239, sF239 inv k), (241, sF241 inv k), (242, sF242 inv k), (243, sF243 inv k), (245, sF245 inv k), (246, sF246 inv k)]
theorem sTab_eq (inv : Inv) (k : Nat) : ∀ p ∈ sTab inv k, ∀ args h, p.2 args h = eFun env k inv p.1 args h := by
  unfold sTab
  intro p hp
  rcases List.mem_cons.1 hp with rfl | hp
  · exact sF8_eq inv k
  rcases List.mem_cons.1 hp with rfl | hp
  · exact sF11_eq inv k
  rcases List.mem_cons.1 hp with rfl | hp
  · exact sF14_eq inv k
  rcases List.mem_cons.1 hp with rfl | hp
  · exact sF15_eq inv k
  rcases List.mem_cons.1 hp with rfl | hp
  · exact sF16_eq inv k
  rcases List.mem_cons.1 hp with rfl | hp
  · exact sF19_eq inv k
  rcases List.mem_cons.1 hp with rfl | hp
  · exact sF20_eq inv k
  rcases List.mem_cons.1 hp with rfl | hp
  · exact sF21_eq inv k
  rcases List.mem_cons.1 hp with rfl | hp
  · exact sF22_eq inv k
  rcases List.mem_cons.1 hp with rfl | hp
  · exact sF23_eq inv k
  rcases List.mem_cons.1 hp with rfl | hp
  · exact sF24_eq inv k
  rcases List.mem_cons.1 hp with rfl | hp
  · exact sF25_eq inv k
  rcases List.mem_cons.1 hp with rfl | hp
  · exact sF30_eq inv k
  rcases List.mem_cons.1 hp with rfl | hp
  · exact sF32_eq inv k
  rcases List.mem_cons.1 hp with rfl | hp
  · exact sF33_eq inv k
  rcases List.mem_cons.1 hp with rfl | hp
  · exact sF34_eq inv k
  rcases List.mem_cons.1 hp with rfl | hp
  · exact sF35_eq inv k
  rcases List.mem_cons.1 hp with rfl | hp
  · exact sF36_eq inv k
  rcases List.mem_cons.1 hp with rfl | hp
  · exact sF37_eq inv k
  rcases List.mem_cons.1 hp with rfl | hp
  · exact sF39_eq inv k
  rcases List.mem_cons.1 hp with rfl | hp
  · exact sF40_eq inv k
  rcases List.mem_cons.1 hp with rfl | hp
  · exact sF42_eq inv k
  rcases List.mem_cons.1 hp with rfl | hp
  · exact sF43_eq inv k
  rcases List.mem_cons.1 hp with rfl | hp
  · exact sF44_eq inv k
  rcases List.mem_cons.1 hp with rfl | hp
  · exact sF45_eq inv k
  rcases List.mem_cons.1 hp with rfl | hp
  · exact sF46_eq inv k
  rcases List.mem_cons.1 hp with rfl | hp
  · exact sF47_eq inv k
  rcases List.mem_cons.1 hp with rfl | hp
  · exact sF48_eq inv k
  rcases List.mem_cons.1 hp with rfl | hp
  · exact sF49_eq inv k
  rcases List.mem_cons.1 hp with rfl | hp
  · exact sF50_eq inv k
  rcases List.mem_cons.1 hp with rfl | hp
  · exact sF62_eq inv k
  rcases List.mem_cons.1 hp with rfl | hp
  · exact sF63_eq inv k
  rcases List.mem_cons.1 hp with rfl | hp
  · exact sF64_eq inv k
  rcases List.mem_cons.1 hp with rfl | hp
  · exact sF67_eq inv k
  rcases List.mem_cons.1 hp with rfl | hp
  · exact sF68_eq inv k
  rcases List.mem_cons.1 hp with rfl | hp
  · exact sF69_eq inv k
  rcases List.mem_cons.1 hp with rfl | hp
  · exact sF70_eq inv k
  rcases List.mem_cons.1 hp with rfl | hp
  · exact sF71_eq inv k
  rcases List.mem_cons.1 hp with rfl | hp
  · exact sF72_eq inv k
  rcases List.mem_cons.1 hp with rfl | hp
  · exact sF73_eq inv k
  rcases List.mem_cons.1 hp with rfl | hp
  · exact sF74_eq inv k
  rcases List.mem_cons.1 hp with rfl | hp
  · exact sF75_eq inv k
  rcases List.mem_cons.1 hp with rfl | hp
  · exact sF76_eq inv k
  rcases List.mem_cons.1 hp with rfl | hp
  · exact sF77_eq inv k
  rcases List.mem_cons.1 hp with rfl | hp
  · exact sF81_eq inv k
  rcases List.mem_cons.1 hp with rfl | hp
  · exact sF82_eq inv k
  rcases List.mem_cons.1 hp with rfl | hp
  · exact sF83_eq inv k
  rcases List.mem_cons.1 hp with rfl | hp
  · exact sF84_eq inv k
  rcases List.mem_cons.1 hp with rfl | hp
  · exact sF85_eq inv k
  rcases List.mem_cons.1 hp with rfl | hp
  · exact sF86_eq inv k
  rcases List.mem_cons.1 hp with rfl | hp
  · exact sF102_eq inv k
  rcases List.mem_cons.1 hp with rfl | hp
  · exact sF103_eq inv k
  rcases List.mem_cons.1 hp with rfl | hp
  · exact sF104_eq inv k
  rcases List.mem_cons.1 hp with rfl | hp
  · exact sF105_eq inv k
  rcases List.mem_cons.1 hp with rfl | hp
  · exact sF106_eq inv k
  rcases List.mem_cons.1 hp with rfl | hp
  · exact sF107_eq inv k
  rcases List.mem_cons.1 hp with rfl | hp
  · exact sF108_eq inv k
  rcases List.mem_cons.1 hp with rfl | hp
  · exact sF109_eq inv k
  rcases List.mem_cons.1 hp with rfl | hp
  · exact sF110_eq inv k
  rcases List.mem_cons.1 hp with rfl | hp
  · exact sF111_eq inv k
  rcases List.mem_cons.1 hp with rfl | hp
  · exact sF112_eq inv k
  rcases List.mem_cons.1 hp with rfl | hp
  · exact sF113_eq inv k
  rcases List.mem_cons.1 hp with rfl | hp
  · exact sF114_eq inv k
  rcases List.mem_cons.1 hp with rfl | hp
  · exact sF115_eq inv k
  rcases List.mem_cons.1 hp with rfl | hp
  · exact sF116_eq inv k
  rcases List.mem_cons.1 hp with rfl | hp
  · exact sF117_eq inv k
  rcases List.mem_cons.1 hp with rfl | hp
  · exact sF118_eq inv k
  rcases List.mem_cons.1 hp with rfl | hp
  · exact sF119_eq inv k
  rcases List.mem_cons.1 hp with rfl | hp
  · exact sF121_eq inv k
  rcases List.mem_cons.1 hp with rfl | hp
  · exact sF122_eq inv k
  rcases List.mem_cons.1 hp with rfl | hp
  · exact sF123_eq inv k
  rcases List.mem_cons.1 hp with rfl | hp
  · exact sF124_eq inv k
  rcases List.mem_cons.1 hp with rfl | hp
  · exact sF125_eq inv k
  rcases List.mem_cons.1 hp with rfl | hp
  · exact sF126_eq inv k
  rcases List.mem_cons.1 hp with rfl | hp
  · exact sF127_eq inv k
  rcases List.mem_cons.1 hp with rfl | hp
  · exact sF134_eq inv k
  rcases List.mem_cons.1 hp with rfl | hp
  · exact sF135_eq inv k
  rcases List.mem_cons.1 hp with rfl | hp
  · exact sF136_eq inv k
  rcases List.mem_cons.1 hp with rfl | hp
  · exact sF137_eq inv k
  rcases List.mem_cons.1 hp with rfl | hp
  · exact sF138_eq inv k
  rcases List.mem_cons.1 hp with rfl | hp
  · exact sF139_eq inv k
  rcases List.mem_cons.1 hp with rfl | hp
  · exact sF140_eq inv k
  rcases List.mem_cons.1 hp with rfl | hp
  · exact sF141_eq inv k
  rcases List.mem_cons.1 hp with rfl | hp
  · exact sF142_eq inv k
  rcases List.mem_cons.1 hp with rfl | hp
  · exact sF143_eq inv k
  rcases List.mem_cons.1 hp with rfl | hp
  · exact sF144_eq inv k
  rcases List.mem_cons.1 hp with rfl | hp
  · exact sF145_eq inv k
  rcases List.mem_cons.1 hp with rfl | hp
  · exact sF146_eq inv k
  rcases List.mem_cons.1 hp with rfl | hp
  · exact sF147_eq inv k
  rcases List.mem_cons.1 hp with rfl | hp
  · exact sF148_eq inv k
  rcases List.mem_cons.1 hp with rfl | hp
  · exact sF149_eq inv k
  rcases List.mem_cons.1 hp with rfl | hp
  · exact sF150_eq inv k
  rcases List.mem_cons.1 hp with rfl | hp
  · exact sF151_eq inv k
  rcases List.mem_cons.1 hp with rfl | hp
  · exact sF152_eq inv k
  rcases List.mem_cons.1 hp with rfl | hp
  · exact sF153_eq inv k
  rcases List.mem_cons.1 hp with rfl | hp
  · exact sF154_eq inv k
  rcases List.mem_cons.1 hp with rfl | hp
  · exact sF159_eq inv k
  rcases List.mem_cons.1 hp with rfl | hp
  · exact sF160_eq inv k
  rcases List.mem_cons.1 hp with rfl | hp
  · exact sF161_eq inv k
  rcases List.mem_cons.1 hp with rfl | hp
  · exact sF162_eq inv k
  rcases List.mem_cons.1 hp with rfl | hp
  · exact sF163_eq inv k
  rcases List.mem_cons.1 hp with rfl | hp
  · exact sF164_eq inv k
  rcases List.mem_cons.1 hp with rfl | hp
  · exact sF165_eq inv k
  rcases List.mem_cons.1 hp with rfl | hp
  · exact sF166_eq inv k
  rcases List.mem_cons.1 hp with rfl | hp
  · exact sF167_eq inv k
  rcases List.mem_cons.1 hp with rfl | hp
  · exact sF168_eq inv k
  rcases List.mem_cons.1 hp with rfl | hp
  · exact sF169_eq inv k
  rcases List.mem_cons.1 hp with rfl | hp
  · exact sF170_eq inv k
  rcases List.mem_cons.1 hp with rfl | hp
  · exact sF171_eq inv k
  rcases List.mem_cons.1 hp with rfl | hp
  · exact sF172_eq inv k
  rcases List.mem_cons.1 hp with rfl | hp
  · exact sF173_eq inv k
  rcases List.mem_cons.1 hp with rfl | hp
  · exact sF174_eq inv k
  rcases List.mem_cons.1 hp with rfl | hp
  · exact sF175_eq inv k
  rcases List.mem_cons.1 hp with rfl | hp
  · exact sF176_eq inv k
  rcases List.mem_cons.1 hp with rfl | hp
  · exact sF177_eq inv k
  rcases List.mem_cons.1 hp with rfl | hp
  · exact sF178_eq inv k
  rcases List.mem_cons.1 hp with rfl | hp
  · exact sF180_eq inv k
  rcases List.mem_cons.1 hp with rfl | hp
  · exact sF181_eq inv k
  rcases List.mem_cons.1 hp with rfl | hp
  · exact sF184_eq inv k
  rcases List.mem_cons.1 hp with rfl | hp
  · exact sF185_eq inv k
  rcases List.mem_cons.1 hp with rfl | hp
  · exact sF186_eq inv k
  rcases List.mem_cons.1 hp with rfl | hp
  · exact sF187_eq inv k
  rcases List.mem_cons.1 hp with rfl | hp
  · exact sF188_eq inv k
  rcases List.mem_cons.1 hp with rfl | hp
  · exact sF189_eq inv k
  rcases List.mem_cons.1 hp with rfl | hp
  · exact sF190_eq inv k
  rcases List.mem_cons.1 hp with rfl | hp
  · exact sF191_eq inv k
  rcases List.mem_cons.1 hp with rfl | hp
  · exact sF192_eq inv k
  rcases List.mem_cons.1 hp with rfl | hp
  · exact sF193_eq inv k
  rcases List.mem_cons.1 hp with rfl | hp
  · exact sF196_eq inv k
  rcases List.mem_cons.1 hp with rfl | hp
  · exact sF197_eq inv k
  rcases List.mem_cons.1 hp with rfl | hp
  · exact sF236_eq inv k
  rcases List.mem_cons.1 hp with rfl | hp
  · exact sF238_eq inv k
  rcases List.mem_cons.1 hp with rfl | hp
  · exact sF239_eq inv k
  rcases List.mem_cons.1 hp with rfl | hp
  · exact sF241_eq inv k
  rcases List.mem_cons.1 hp with rfl | hp
  · exact sF242_eq inv k
  rcases List.mem_cons.1 hp with rfl | hp
  · exact sF243_eq inv k
  rcases List.mem_cons.1 hp with rfl | hp
  · exact sF245_eq inv k
  rcases List.mem_cons.1 hp with rfl | hp
  · exact sF246_eq inv k
  cases hp
noncomputable def sFun (inv : Inv) (k : Nat) (f : FuncId) (args : Array Value) (h : AH) : Option (Value × AH) := pickF (eFun env k inv f) (sTab inv k) f args h
theorem sFun_eq (inv : Inv) (k : Nat) (f : FuncId) (args : Array Value) (h : AH) : sFun inv k f args h = eFun env k inv f args h :=
  pickF_spec (fun j (g : Array Value → AH → Option (Value × AH)) => ∀ args h, g args h = eFun env k inv j args h) (fun _ _ => rfl) (sTab inv k) (sTab_eq inv k) args h
noncomputable def sInv : Nat → Inv
  | 0 => fun _ _ _ _ => none
  | k + 1 => fun fn captured args h => match eTarget env.P fn captured args with
    | some (true, f, as1) => (match env.X f with
      | some g => (g as1).map fun v => (v, h)
      | none => sFun (sInv k) k f as1 h)
    | some (false, l, as1) => eRound env k (sInv k) l as1 h
    | none => none
theorem sInv_eq (k : Nat) : sInv k = eInv env k := by
  induction k with
  | zero => rfl
  | succ k ih =>
    funext fn captured args h
    simp only [sInv, eInv, ih, sFun_eq]
    cases eTarget env.P fn captured args with
    | none => rfl
    | some q =>
      obtain ⟨b, f, as1⟩ := q
      cases b
      · rfl
      · dsimp only; cases env.X f <;> rfl
end Go.Proofs.YtkdjlihldeafoaaGreat.Sh
