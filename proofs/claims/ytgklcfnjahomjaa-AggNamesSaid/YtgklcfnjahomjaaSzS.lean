/- The shallow functions together. Printed by a program of the prover's own from the loaded program; Lean checks it. -/
import Derived.Test.YtgklcfnjahomjaaSzF
set_option linter.unusedVariables false
set_option linter.unusedSimpArgs false
set_option maxRecDepth 100000
namespace Go.Proofs.Ytgklcfnjahomjaa.Sh
open Go Go.RowKit Go.Proofs.Ev
set_option maxHeartbeats 40000000
noncomputable def sF6 (inv : Inv) (k : Nat) (args : Array Value) (h : AH) : Option (Value × AH) := match args with
  | ⟨[]⟩ => F6 inv k  h
  | args => eFun env k inv 6 args h
theorem sF6_eq (inv : Inv) (k : Nat) (args : Array Value) (h : AH) : sF6 inv k args h = eFun env k inv 6 args h := by
  unfold sF6
  split
  · exact F6_eq.symm
  · rfl
noncomputable def sF9 (inv : Inv) (k : Nat) (args : Array Value) (h : AH) : Option (Value × AH) := match args with
  | ⟨[]⟩ => F9 inv k  h
  | args => eFun env k inv 9 args h
theorem sF9_eq (inv : Inv) (k : Nat) (args : Array Value) (h : AH) : sF9 inv k args h = eFun env k inv 9 args h := by
  unfold sF9
  split
  · exact F9_eq.symm
  · rfl
noncomputable def sF12 (inv : Inv) (k : Nat) (args : Array Value) (h : AH) : Option (Value × AH) := match args with
  | ⟨[x0, x1, x2, x3]⟩ => F12 inv k x0 x1 x2 x3 h
  | args => eFun env k inv 12 args h
theorem sF12_eq (inv : Inv) (k : Nat) (args : Array Value) (h : AH) : sF12 inv k args h = eFun env k inv 12 args h := by
  unfold sF12
  split
  · exact F12_eq.symm
  · rfl
noncomputable def sF16 (inv : Inv) (k : Nat) (args : Array Value) (h : AH) : Option (Value × AH) := match args with
  | ⟨[x0, x1]⟩ => F16 inv k x0 x1 h
  | args => eFun env k inv 16 args h
theorem sF16_eq (inv : Inv) (k : Nat) (args : Array Value) (h : AH) : sF16 inv k args h = eFun env k inv 16 args h := by
  unfold sF16
  split
  · exact F16_eq.symm
  · rfl
noncomputable def sF18 (inv : Inv) (k : Nat) (args : Array Value) (h : AH) : Option (Value × AH) := match args with
  | ⟨[x0, x1, x2]⟩ => F18 inv k x0 x1 x2 h
  | args => eFun env k inv 18 args h
theorem sF18_eq (inv : Inv) (k : Nat) (args : Array Value) (h : AH) : sF18 inv k args h = eFun env k inv 18 args h := by
  unfold sF18
  split
  · exact F18_eq.symm
  · rfl
noncomputable def sF20 (inv : Inv) (k : Nat) (args : Array Value) (h : AH) : Option (Value × AH) := match args with
  | ⟨[x0, x1, x2]⟩ => F20 inv k x0 x1 x2 h
  | args => eFun env k inv 20 args h
theorem sF20_eq (inv : Inv) (k : Nat) (args : Array Value) (h : AH) : sF20 inv k args h = eFun env k inv 20 args h := by
  unfold sF20
  split
  · exact F20_eq.symm
  · rfl
noncomputable def sF21 (inv : Inv) (k : Nat) (args : Array Value) (h : AH) : Option (Value × AH) := match args with
  | ⟨[x0, x1]⟩ => F21 inv k x0 x1 h
  | args => eFun env k inv 21 args h
theorem sF21_eq (inv : Inv) (k : Nat) (args : Array Value) (h : AH) : sF21 inv k args h = eFun env k inv 21 args h := by
  unfold sF21
  split
  · exact F21_eq.symm
  · rfl
noncomputable def sF23 (inv : Inv) (k : Nat) (args : Array Value) (h : AH) : Option (Value × AH) := match args with
  | ⟨[x0]⟩ => F23 inv k x0 h
  | args => eFun env k inv 23 args h
theorem sF23_eq (inv : Inv) (k : Nat) (args : Array Value) (h : AH) : sF23 inv k args h = eFun env k inv 23 args h := by
  unfold sF23
  split
  · exact F23_eq.symm
  · rfl
noncomputable def sF24 (inv : Inv) (k : Nat) (args : Array Value) (h : AH) : Option (Value × AH) := match args with
  | ⟨[x0]⟩ => F24 inv k x0 h
  | args => eFun env k inv 24 args h
theorem sF24_eq (inv : Inv) (k : Nat) (args : Array Value) (h : AH) : sF24 inv k args h = eFun env k inv 24 args h := by
  unfold sF24
  split
  · exact F24_eq.symm
  · rfl
noncomputable def sF26 (inv : Inv) (k : Nat) (args : Array Value) (h : AH) : Option (Value × AH) := match args with
  | ⟨[]⟩ => F26 inv k  h
  | args => eFun env k inv 26 args h
theorem sF26_eq (inv : Inv) (k : Nat) (args : Array Value) (h : AH) : sF26 inv k args h = eFun env k inv 26 args h := by
  unfold sF26
  split
  · exact F26_eq.symm
  · rfl
noncomputable def sF27 (inv : Inv) (k : Nat) (args : Array Value) (h : AH) : Option (Value × AH) := match args with
  | ⟨[x0]⟩ => F27 inv k x0 h
  | args => eFun env k inv 27 args h
theorem sF27_eq (inv : Inv) (k : Nat) (args : Array Value) (h : AH) : sF27 inv k args h = eFun env k inv 27 args h := by
  unfold sF27
  split
  · exact F27_eq.symm
  · rfl
noncomputable def sF28 (inv : Inv) (k : Nat) (args : Array Value) (h : AH) : Option (Value × AH) := match args with
  | ⟨[]⟩ => F28 inv k  h
  | args => eFun env k inv 28 args h
theorem sF28_eq (inv : Inv) (k : Nat) (args : Array Value) (h : AH) : sF28 inv k args h = eFun env k inv 28 args h := by
  unfold sF28
  split
  · exact F28_eq.symm
  · rfl
noncomputable def sF29 (inv : Inv) (k : Nat) (args : Array Value) (h : AH) : Option (Value × AH) := match args with
  | ⟨[]⟩ => F29 inv k  h
  | args => eFun env k inv 29 args h
theorem sF29_eq (inv : Inv) (k : Nat) (args : Array Value) (h : AH) : sF29 inv k args h = eFun env k inv 29 args h := by
  unfold sF29
  split
  · exact F29_eq.symm
  · rfl
noncomputable def sF30 (inv : Inv) (k : Nat) (args : Array Value) (h : AH) : Option (Value × AH) := match args with
  | ⟨[x0, x1]⟩ => F30 inv k x0 x1 h
  | args => eFun env k inv 30 args h
theorem sF30_eq (inv : Inv) (k : Nat) (args : Array Value) (h : AH) : sF30 inv k args h = eFun env k inv 30 args h := by
  unfold sF30
  split
  · exact F30_eq.symm
  · rfl
noncomputable def sF31 (inv : Inv) (k : Nat) (args : Array Value) (h : AH) : Option (Value × AH) := match args with
  | ⟨[x0, x1]⟩ => F31 inv k x0 x1 h
  | args => eFun env k inv 31 args h
theorem sF31_eq (inv : Inv) (k : Nat) (args : Array Value) (h : AH) : sF31 inv k args h = eFun env k inv 31 args h := by
  unfold sF31
  split
  · exact F31_eq.symm
  · rfl
noncomputable def sF32 (inv : Inv) (k : Nat) (args : Array Value) (h : AH) : Option (Value × AH) := match args with
  | ⟨[x0]⟩ => F32 inv k x0 h
  | args => eFun env k inv 32 args h
theorem sF32_eq (inv : Inv) (k : Nat) (args : Array Value) (h : AH) : sF32 inv k args h = eFun env k inv 32 args h := by
  unfold sF32
  split
  · exact F32_eq.symm
  · rfl
noncomputable def sF36 (inv : Inv) (k : Nat) (args : Array Value) (h : AH) : Option (Value × AH) := match args with
  | ⟨[x0]⟩ => F36 inv k x0 h
  | args => eFun env k inv 36 args h
theorem sF36_eq (inv : Inv) (k : Nat) (args : Array Value) (h : AH) : sF36 inv k args h = eFun env k inv 36 args h := by
  unfold sF36
  split
  · exact F36_eq.symm
  · rfl
noncomputable def sF37 (inv : Inv) (k : Nat) (args : Array Value) (h : AH) : Option (Value × AH) := match args with
  | ⟨[x0]⟩ => F37 inv k x0 h
  | args => eFun env k inv 37 args h
theorem sF37_eq (inv : Inv) (k : Nat) (args : Array Value) (h : AH) : sF37 inv k args h = eFun env k inv 37 args h := by
  unfold sF37
  split
  · exact F37_eq.symm
  · rfl
noncomputable def sF38 (inv : Inv) (k : Nat) (args : Array Value) (h : AH) : Option (Value × AH) := match args with
  | ⟨[x0]⟩ => F38 inv k x0 h
  | args => eFun env k inv 38 args h
theorem sF38_eq (inv : Inv) (k : Nat) (args : Array Value) (h : AH) : sF38 inv k args h = eFun env k inv 38 args h := by
  unfold sF38
  split
  · exact F38_eq.symm
  · rfl
noncomputable def sF39 (inv : Inv) (k : Nat) (args : Array Value) (h : AH) : Option (Value × AH) := match args with
  | ⟨[x0, x1]⟩ => F39 inv k x0 x1 h
  | args => eFun env k inv 39 args h
theorem sF39_eq (inv : Inv) (k : Nat) (args : Array Value) (h : AH) : sF39 inv k args h = eFun env k inv 39 args h := by
  unfold sF39
  split
  · exact F39_eq.symm
  · rfl
noncomputable def sF41 (inv : Inv) (k : Nat) (args : Array Value) (h : AH) : Option (Value × AH) := match args with
  | ⟨[x0]⟩ => F41 inv k x0 h
  | args => eFun env k inv 41 args h
theorem sF41_eq (inv : Inv) (k : Nat) (args : Array Value) (h : AH) : sF41 inv k args h = eFun env k inv 41 args h := by
  unfold sF41
  split
  · exact F41_eq.symm
  · rfl
noncomputable def sF42 (inv : Inv) (k : Nat) (args : Array Value) (h : AH) : Option (Value × AH) := match args with
  | ⟨[x0, x1]⟩ => F42 inv k x0 x1 h
  | args => eFun env k inv 42 args h
theorem sF42_eq (inv : Inv) (k : Nat) (args : Array Value) (h : AH) : sF42 inv k args h = eFun env k inv 42 args h := by
  unfold sF42
  split
  · exact F42_eq.symm
  · rfl
noncomputable def sF43 (inv : Inv) (k : Nat) (args : Array Value) (h : AH) : Option (Value × AH) := match args with
  | ⟨[x0, x1]⟩ => F43 inv k x0 x1 h
  | args => eFun env k inv 43 args h
theorem sF43_eq (inv : Inv) (k : Nat) (args : Array Value) (h : AH) : sF43 inv k args h = eFun env k inv 43 args h := by
  unfold sF43
  split
  · exact F43_eq.symm
  · rfl
noncomputable def sF44 (inv : Inv) (k : Nat) (args : Array Value) (h : AH) : Option (Value × AH) := match args with
  | ⟨[x0, x1]⟩ => F44 inv k x0 x1 h
  | args => eFun env k inv 44 args h
theorem sF44_eq (inv : Inv) (k : Nat) (args : Array Value) (h : AH) : sF44 inv k args h = eFun env k inv 44 args h := by
  unfold sF44
  split
  · exact F44_eq.symm
  · rfl
noncomputable def sF45 (inv : Inv) (k : Nat) (args : Array Value) (h : AH) : Option (Value × AH) := match args with
  | ⟨[x0, x1]⟩ => F45 inv k x0 x1 h
  | args => eFun env k inv 45 args h
theorem sF45_eq (inv : Inv) (k : Nat) (args : Array Value) (h : AH) : sF45 inv k args h = eFun env k inv 45 args h := by
  unfold sF45
  split
  · exact F45_eq.symm
  · rfl
noncomputable def sF46 (inv : Inv) (k : Nat) (args : Array Value) (h : AH) : Option (Value × AH) := match args with
  | ⟨[x0, x1]⟩ => F46 inv k x0 x1 h
  | args => eFun env k inv 46 args h
theorem sF46_eq (inv : Inv) (k : Nat) (args : Array Value) (h : AH) : sF46 inv k args h = eFun env k inv 46 args h := by
  unfold sF46
  split
  · exact F46_eq.symm
  · rfl
noncomputable def sF47 (inv : Inv) (k : Nat) (args : Array Value) (h : AH) : Option (Value × AH) := match args with
  | ⟨[x0, x1]⟩ => F47 inv k x0 x1 h
  | args => eFun env k inv 47 args h
theorem sF47_eq (inv : Inv) (k : Nat) (args : Array Value) (h : AH) : sF47 inv k args h = eFun env k inv 47 args h := by
  unfold sF47
  split
  · exact F47_eq.symm
  · rfl
noncomputable def sF50 (inv : Inv) (k : Nat) (args : Array Value) (h : AH) : Option (Value × AH) := match args with
  | ⟨[x0]⟩ => F50 inv k x0 h
  | args => eFun env k inv 50 args h
theorem sF50_eq (inv : Inv) (k : Nat) (args : Array Value) (h : AH) : sF50 inv k args h = eFun env k inv 50 args h := by
  unfold sF50
  split
  · exact F50_eq.symm
  · rfl
noncomputable def sF51 (inv : Inv) (k : Nat) (args : Array Value) (h : AH) : Option (Value × AH) := match args with
  | ⟨[x0]⟩ => F51 inv k x0 h
  | args => eFun env k inv 51 args h
theorem sF51_eq (inv : Inv) (k : Nat) (args : Array Value) (h : AH) : sF51 inv k args h = eFun env k inv 51 args h := by
  unfold sF51
  split
  · exact F51_eq.symm
  · rfl
noncomputable def sF53 (inv : Inv) (k : Nat) (args : Array Value) (h : AH) : Option (Value × AH) := match args with
  | ⟨[x0, x1]⟩ => F53 inv k x0 x1 h
  | args => eFun env k inv 53 args h
theorem sF53_eq (inv : Inv) (k : Nat) (args : Array Value) (h : AH) : sF53 inv k args h = eFun env k inv 53 args h := by
  unfold sF53
  split
  · exact F53_eq.symm
  · rfl
noncomputable def sF54 (inv : Inv) (k : Nat) (args : Array Value) (h : AH) : Option (Value × AH) := match args with
  | ⟨[x0, x1]⟩ => F54 inv k x0 x1 h
  | args => eFun env k inv 54 args h
theorem sF54_eq (inv : Inv) (k : Nat) (args : Array Value) (h : AH) : sF54 inv k args h = eFun env k inv 54 args h := by
  unfold sF54
  split
  · exact F54_eq.symm
  · rfl
noncomputable def sF55 (inv : Inv) (k : Nat) (args : Array Value) (h : AH) : Option (Value × AH) := match args with
  | ⟨[x0, x1]⟩ => F55 inv k x0 x1 h
  | args => eFun env k inv 55 args h
theorem sF55_eq (inv : Inv) (k : Nat) (args : Array Value) (h : AH) : sF55 inv k args h = eFun env k inv 55 args h := by
  unfold sF55
  split
  · exact F55_eq.symm
  · rfl
noncomputable def sF57 (inv : Inv) (k : Nat) (args : Array Value) (h : AH) : Option (Value × AH) := match args with
  | ⟨[x0]⟩ => F57 inv k x0 h
  | args => eFun env k inv 57 args h
theorem sF57_eq (inv : Inv) (k : Nat) (args : Array Value) (h : AH) : sF57 inv k args h = eFun env k inv 57 args h := by
  unfold sF57
  split
  · exact F57_eq.symm
  · rfl
noncomputable def sF58 (inv : Inv) (k : Nat) (args : Array Value) (h : AH) : Option (Value × AH) := match args with
  | ⟨[x0]⟩ => F58 inv k x0 h
  | args => eFun env k inv 58 args h
theorem sF58_eq (inv : Inv) (k : Nat) (args : Array Value) (h : AH) : sF58 inv k args h = eFun env k inv 58 args h := by
  unfold sF58
  split
  · exact F58_eq.symm
  · rfl
noncomputable def sF60 (inv : Inv) (k : Nat) (args : Array Value) (h : AH) : Option (Value × AH) := match args with
  | ⟨[x0]⟩ => F60 inv k x0 h
  | args => eFun env k inv 60 args h
theorem sF60_eq (inv : Inv) (k : Nat) (args : Array Value) (h : AH) : sF60 inv k args h = eFun env k inv 60 args h := by
  unfold sF60
  split
  · exact F60_eq.symm
  · rfl
noncomputable def sF61 (inv : Inv) (k : Nat) (args : Array Value) (h : AH) : Option (Value × AH) := match args with
  | ⟨[x0, x1]⟩ => F61 inv k x0 x1 h
  | args => eFun env k inv 61 args h
theorem sF61_eq (inv : Inv) (k : Nat) (args : Array Value) (h : AH) : sF61 inv k args h = eFun env k inv 61 args h := by
  unfold sF61
  split
  · exact F61_eq.symm
  · rfl
noncomputable def sF62 (inv : Inv) (k : Nat) (args : Array Value) (h : AH) : Option (Value × AH) := match args with
  | ⟨[x0, x1]⟩ => F62 inv k x0 x1 h
  | args => eFun env k inv 62 args h
theorem sF62_eq (inv : Inv) (k : Nat) (args : Array Value) (h : AH) : sF62 inv k args h = eFun env k inv 62 args h := by
  unfold sF62
  split
  · exact F62_eq.symm
  · rfl
noncomputable def sF63 (inv : Inv) (k : Nat) (args : Array Value) (h : AH) : Option (Value × AH) := match args with
  | ⟨[x0, x1]⟩ => F63 inv k x0 x1 h
  | args => eFun env k inv 63 args h
theorem sF63_eq (inv : Inv) (k : Nat) (args : Array Value) (h : AH) : sF63 inv k args h = eFun env k inv 63 args h := by
  unfold sF63
  split
  · exact F63_eq.symm
  · rfl
noncomputable def sF64 (inv : Inv) (k : Nat) (args : Array Value) (h : AH) : Option (Value × AH) := match args with
  | ⟨[x0, x1]⟩ => F64 inv k x0 x1 h
  | args => eFun env k inv 64 args h
theorem sF64_eq (inv : Inv) (k : Nat) (args : Array Value) (h : AH) : sF64 inv k args h = eFun env k inv 64 args h := by
  unfold sF64
  split
  · exact F64_eq.symm
  · rfl
noncomputable def sF65 (inv : Inv) (k : Nat) (args : Array Value) (h : AH) : Option (Value × AH) := match args with
  | ⟨[x0, x1]⟩ => F65 inv k x0 x1 h
  | args => eFun env k inv 65 args h
theorem sF65_eq (inv : Inv) (k : Nat) (args : Array Value) (h : AH) : sF65 inv k args h = eFun env k inv 65 args h := by
  unfold sF65
  split
  · exact F65_eq.symm
  · rfl
noncomputable def sF69 (inv : Inv) (k : Nat) (args : Array Value) (h : AH) : Option (Value × AH) := match args with
  | ⟨[x0, x1]⟩ => F69 inv k x0 x1 h
  | args => eFun env k inv 69 args h
theorem sF69_eq (inv : Inv) (k : Nat) (args : Array Value) (h : AH) : sF69 inv k args h = eFun env k inv 69 args h := by
  unfold sF69
  split
  · exact F69_eq.symm
  · rfl
noncomputable def sF70 (inv : Inv) (k : Nat) (args : Array Value) (h : AH) : Option (Value × AH) := match args with
  | ⟨[x0]⟩ => F70 inv k x0 h
  | args => eFun env k inv 70 args h
theorem sF70_eq (inv : Inv) (k : Nat) (args : Array Value) (h : AH) : sF70 inv k args h = eFun env k inv 70 args h := by
  unfold sF70
  split
  · exact F70_eq.symm
  · rfl
noncomputable def sF71 (inv : Inv) (k : Nat) (args : Array Value) (h : AH) : Option (Value × AH) := match args with
  | ⟨[x0, x1]⟩ => F71 inv k x0 x1 h
  | args => eFun env k inv 71 args h
theorem sF71_eq (inv : Inv) (k : Nat) (args : Array Value) (h : AH) : sF71 inv k args h = eFun env k inv 71 args h := by
  unfold sF71
  split
  · exact F71_eq.symm
  · rfl
noncomputable def sF72 (inv : Inv) (k : Nat) (args : Array Value) (h : AH) : Option (Value × AH) := match args with
  | ⟨[x0, x1]⟩ => F72 inv k x0 x1 h
  | args => eFun env k inv 72 args h
theorem sF72_eq (inv : Inv) (k : Nat) (args : Array Value) (h : AH) : sF72 inv k args h = eFun env k inv 72 args h := by
  unfold sF72
  split
  · exact F72_eq.symm
  · rfl
noncomputable def sF109 (inv : Inv) (k : Nat) (args : Array Value) (h : AH) : Option (Value × AH) := match args with
  | ⟨[x0, x1]⟩ => F109 inv k x0 x1 h
  | args => eFun env k inv 109 args h
theorem sF109_eq (inv : Inv) (k : Nat) (args : Array Value) (h : AH) : sF109 inv k args h = eFun env k inv 109 args h := by
  unfold sF109
  split
  · exact F109_eq.symm
  · rfl
noncomputable def sF110 (inv : Inv) (k : Nat) (args : Array Value) (h : AH) : Option (Value × AH) := match args with
  | ⟨[x0, x1]⟩ => F110 inv k x0 x1 h
  | args => eFun env k inv 110 args h
theorem sF110_eq (inv : Inv) (k : Nat) (args : Array Value) (h : AH) : sF110 inv k args h = eFun env k inv 110 args h := by
  unfold sF110
  split
  · exact F110_eq.symm
  · rfl
noncomputable def sF111 (inv : Inv) (k : Nat) (args : Array Value) (h : AH) : Option (Value × AH) := match args with
  | ⟨[x0]⟩ => F111 inv k x0 h
  | args => eFun env k inv 111 args h
theorem sF111_eq (inv : Inv) (k : Nat) (args : Array Value) (h : AH) : sF111 inv k args h = eFun env k inv 111 args h := by
  unfold sF111
  split
  · exact F111_eq.symm
  · rfl
noncomputable def sF112 (inv : Inv) (k : Nat) (args : Array Value) (h : AH) : Option (Value × AH) := match args with
  | ⟨[x0, x1]⟩ => F112 inv k x0 x1 h
  | args => eFun env k inv 112 args h
theorem sF112_eq (inv : Inv) (k : Nat) (args : Array Value) (h : AH) : sF112 inv k args h = eFun env k inv 112 args h := by
  unfold sF112
  split
  · exact F112_eq.symm
  · rfl
noncomputable def sF113 (inv : Inv) (k : Nat) (args : Array Value) (h : AH) : Option (Value × AH) := match args with
  | ⟨[x0, x1]⟩ => F113 inv k x0 x1 h
  | args => eFun env k inv 113 args h
theorem sF113_eq (inv : Inv) (k : Nat) (args : Array Value) (h : AH) : sF113 inv k args h = eFun env k inv 113 args h := by
  unfold sF113
  split
  · exact F113_eq.symm
  · rfl
noncomputable def sF114 (inv : Inv) (k : Nat) (args : Array Value) (h : AH) : Option (Value × AH) := match args with
  | ⟨[x0]⟩ => F114 inv k x0 h
  | args => eFun env k inv 114 args h
theorem sF114_eq (inv : Inv) (k : Nat) (args : Array Value) (h : AH) : sF114 inv k args h = eFun env k inv 114 args h := by
  unfold sF114
  split
  · exact F114_eq.symm
  · rfl
noncomputable def sF115 (inv : Inv) (k : Nat) (args : Array Value) (h : AH) : Option (Value × AH) := match args with
  | ⟨[x0, x1]⟩ => F115 inv k x0 x1 h
  | args => eFun env k inv 115 args h
theorem sF115_eq (inv : Inv) (k : Nat) (args : Array Value) (h : AH) : sF115 inv k args h = eFun env k inv 115 args h := by
  unfold sF115
  split
  · exact F115_eq.symm
  · rfl
noncomputable def sF116 (inv : Inv) (k : Nat) (args : Array Value) (h : AH) : Option (Value × AH) := match args with
  | ⟨[x0, x1]⟩ => F116 inv k x0 x1 h
  | args => eFun env k inv 116 args h
theorem sF116_eq (inv : Inv) (k : Nat) (args : Array Value) (h : AH) : sF116 inv k args h = eFun env k inv 116 args h := by
  unfold sF116
  split
  · exact F116_eq.symm
  · rfl
noncomputable def sF117 (inv : Inv) (k : Nat) (args : Array Value) (h : AH) : Option (Value × AH) := match args with
  | ⟨[x0, x1]⟩ => F117 inv k x0 x1 h
  | args => eFun env k inv 117 args h
theorem sF117_eq (inv : Inv) (k : Nat) (args : Array Value) (h : AH) : sF117 inv k args h = eFun env k inv 117 args h := by
  unfold sF117
  split
  · exact F117_eq.symm
  · rfl
noncomputable def sF118 (inv : Inv) (k : Nat) (args : Array Value) (h : AH) : Option (Value × AH) := match args with
  | ⟨[x0]⟩ => F118 inv k x0 h
  | args => eFun env k inv 118 args h
theorem sF118_eq (inv : Inv) (k : Nat) (args : Array Value) (h : AH) : sF118 inv k args h = eFun env k inv 118 args h := by
  unfold sF118
  split
  · exact F118_eq.symm
  · rfl
noncomputable def sF119 (inv : Inv) (k : Nat) (args : Array Value) (h : AH) : Option (Value × AH) := match args with
  | ⟨[x0, x1]⟩ => F119 inv k x0 x1 h
  | args => eFun env k inv 119 args h
theorem sF119_eq (inv : Inv) (k : Nat) (args : Array Value) (h : AH) : sF119 inv k args h = eFun env k inv 119 args h := by
  unfold sF119
  split
  · exact F119_eq.symm
  · rfl
noncomputable def sF120 (inv : Inv) (k : Nat) (args : Array Value) (h : AH) : Option (Value × AH) := match args with
  | ⟨[x0, x1]⟩ => F120 inv k x0 x1 h
  | args => eFun env k inv 120 args h
theorem sF120_eq (inv : Inv) (k : Nat) (args : Array Value) (h : AH) : sF120 inv k args h = eFun env k inv 120 args h := by
  unfold sF120
  split
  · exact F120_eq.symm
  · rfl
noncomputable def sF121 (inv : Inv) (k : Nat) (args : Array Value) (h : AH) : Option (Value × AH) := match args with
  | ⟨[x0]⟩ => F121 inv k x0 h
  | args => eFun env k inv 121 args h
theorem sF121_eq (inv : Inv) (k : Nat) (args : Array Value) (h : AH) : sF121 inv k args h = eFun env k inv 121 args h := by
  unfold sF121
  split
  · exact F121_eq.symm
  · rfl
noncomputable def sF122 (inv : Inv) (k : Nat) (args : Array Value) (h : AH) : Option (Value × AH) := match args with
  | ⟨[x0, x1]⟩ => F122 inv k x0 x1 h
  | args => eFun env k inv 122 args h
theorem sF122_eq (inv : Inv) (k : Nat) (args : Array Value) (h : AH) : sF122 inv k args h = eFun env k inv 122 args h := by
  unfold sF122
  split
  · exact F122_eq.symm
  · rfl
noncomputable def sF123 (inv : Inv) (k : Nat) (args : Array Value) (h : AH) : Option (Value × AH) := match args with
  | ⟨[x0, x1]⟩ => F123 inv k x0 x1 h
  | args => eFun env k inv 123 args h
theorem sF123_eq (inv : Inv) (k : Nat) (args : Array Value) (h : AH) : sF123 inv k args h = eFun env k inv 123 args h := by
  unfold sF123
  split
  · exact F123_eq.symm
  · rfl
noncomputable def sF124 (inv : Inv) (k : Nat) (args : Array Value) (h : AH) : Option (Value × AH) := match args with
  | ⟨[x0, x1]⟩ => F124 inv k x0 x1 h
  | args => eFun env k inv 124 args h
theorem sF124_eq (inv : Inv) (k : Nat) (args : Array Value) (h : AH) : sF124 inv k args h = eFun env k inv 124 args h := by
  unfold sF124
  split
  · exact F124_eq.symm
  · rfl
noncomputable def sF125 (inv : Inv) (k : Nat) (args : Array Value) (h : AH) : Option (Value × AH) := match args with
  | ⟨[x0]⟩ => F125 inv k x0 h
  | args => eFun env k inv 125 args h
theorem sF125_eq (inv : Inv) (k : Nat) (args : Array Value) (h : AH) : sF125 inv k args h = eFun env k inv 125 args h := by
  unfold sF125
  split
  · exact F125_eq.symm
  · rfl
noncomputable def sF126 (inv : Inv) (k : Nat) (args : Array Value) (h : AH) : Option (Value × AH) := match args with
  | ⟨[x0]⟩ => F126 inv k x0 h
  | args => eFun env k inv 126 args h
theorem sF126_eq (inv : Inv) (k : Nat) (args : Array Value) (h : AH) : sF126 inv k args h = eFun env k inv 126 args h := by
  unfold sF126
  split
  · exact F126_eq.symm
  · rfl
noncomputable def sF127 (inv : Inv) (k : Nat) (args : Array Value) (h : AH) : Option (Value × AH) := match args with
  | ⟨[x0, x1]⟩ => F127 inv k x0 x1 h
  | args => eFun env k inv 127 args h
theorem sF127_eq (inv : Inv) (k : Nat) (args : Array Value) (h : AH) : sF127 inv k args h = eFun env k inv 127 args h := by
  unfold sF127
  split
  · exact F127_eq.symm
  · rfl
def pickF {α : Type} (d : α) : List (Nat × α) → Nat → α
  | [], _ => d
  | (i, x) :: l, j => bif Nat.beq i j then x else pickF d l j
theorem pickF_spec {α : Type} {d : α} {j : Nat} (P : Nat → α → Prop) (hd : P j d) : ∀ (l : List (Nat × α)), (∀ p ∈ l, P p.1 p.2) → P j (pickF d l j)
  | [], _ => hd
  | (i, x) :: l, h => by
    unfold pickF
    cases q : Nat.beq i j
    · exact pickF_spec P hd l fun p hp => h p (List.mem_cons_of_mem _ hp)
    · have : i = j := Nat.eq_of_beq_eq_true q
      subst this
      exact h _ (List.mem_cons_self ..)
noncomputable def sTab (inv : Inv) (k : Nat) : List (Nat × (Array Value → AH → Option (Value × AH))) := [(6, sF6 inv k), (9, sF9 inv k), (12, sF12 inv k), (16, sF16 inv k), (18, sF18 inv k), (20, sF20 inv k), (21, sF21 inv k), (23, sF23 inv k), (24, sF24 inv k), (26, sF26 inv k), (27, sF27 inv k), (28, sF28 inv k), (29, sF29 inv k), (30, sF30 inv k), (31, sF31 inv k), (32, sF32 inv k), (36, sF36 inv k), (37, sF37 inv k), (38, sF38 inv k), (39, sF39 inv k), (41, sF41 inv k), (42, sF42 inv k), (43, sF43 inv k), (44, sF44 inv k), (45, sF45 inv k), (46, sF46 inv k), (47, sF47 inv k), (50, sF50 inv k), (51, sF51 inv k), (53, sF53 inv k), (54, sF54 inv k), (55, sF55 inv k), (57, sF57 inv k), (58, sF58 inv k), (60, sF60 inv k), (61, sF61 inv k), (62, sF62 inv k), (63, sF63 inv k), (64, sF64 inv k), (65, sF65 inv k), (69, sF69 inv k), (70, sF70 inv k), (71, sF71 inv k), (72, sF72 inv k), (109, sF109 inv k), (110, sF110 inv k), (111, sF111 inv k), (112, sF112 inv k), (113, sF113 inv k), (114, sF114 inv k), (115, sF115 inv k), (116, sF116 inv k), (117, sF117 inv k), (118, sF118 inv k), (119, sF119 inv k), (120, sF120 inv k), (121, sF121 inv k), (122, sF122 inv k), (123, sF123 inv k), (124, sF124 inv k), (125, sF125 inv k), (126, sF126 inv k), (127, sF127 inv k)]
theorem sTab_eq (inv : Inv) (k : Nat) : ∀ p ∈ sTab inv k, ∀ args h, p.2 args h = eFun env k inv p.1 args h := by
  unfold sTab
  intro p hp
  rcases List.mem_cons.1 hp with rfl | hp
  · exact sF6_eq inv k
  rcases List.mem_cons.1 hp with rfl | hp
  · exact sF9_eq inv k
  rcases List.mem_cons.1 hp with rfl | hp
  · exact sF12_eq inv k
  rcases List.mem_cons.1 hp with rfl | hp
  · exact sF16_eq inv k
  rcases List.mem_cons.1 hp with rfl | hp
  · exact sF18_eq inv k
  rcases List.mem_cons.1 hp with rfl | hp
  · exact sF20_eq inv k
  rcases List.mem_cons.1 hp with rfl | hp
  · exact sF21_eq inv k
  rcases List.mem_cons.1 hp with rfl | hp
  · exact sF23_eq inv k
  rcases List.mem_cons.1 hp with rfl | hp
  · exact sF24_eq inv k
  rcases List.mem_cons.1 hp with rfl | hp
  · exact sF26_eq inv k
  rcases List.mem_cons.1 hp with rfl | hp
  · exact sF27_eq inv k
  rcases List.mem_cons.1 hp with rfl | hp
  · exact sF28_eq inv k
  rcases List.mem_cons.1 hp with rfl | hp
  · exact sF29_eq inv k
  rcases List.mem_cons.1 hp with rfl | hp
  · exact sF30_eq inv k
  rcases List.mem_cons.1 hp with rfl | hp
  · exact sF31_eq inv k
  rcases List.mem_cons.1 hp with rfl | hp
  · exact sF32_eq inv k
  rcases List.mem_cons.1 hp with rfl | hp
  · exact sF36_eq inv k
  rcases List.mem_cons.1 hp with rfl | hp
  · exact sF37_eq inv k
  rcases List.mem_cons.1 hp with rfl | hp
  · exact sF38_eq inv k
  rcases List.mem_cons.1 hp with rfl | hp
  · exact sF39_eq inv k
  rcases List.mem_cons.1 hp with rfl | hp
  · exact sF41_eq inv k
  rcases List.mem_cons.1 hp with rfl | hp
  · exact sF42_eq inv k
  rcases List.mem_cons.1 hp with rfl | hp
  · exact sF43_eq inv k
  rcases List.mem_cons.1 hp with rfl | hp
  · exact sF44_eq inv k
  rcases List.mem_cons.1 hp with rfl | hp
  · exact sF45_eq inv k
  rcases List.mem_cons.1 hp with rfl | hp
  · exact sF46_eq inv k
  rcases List.mem_cons.1 hp with rfl | hp
  · exact sF47_eq inv k
  rcases List.mem_cons.1 hp with rfl | hp
  · exact sF50_eq inv k
  rcases List.mem_cons.1 hp with rfl | hp
  · exact sF51_eq inv k
  rcases List.mem_cons.1 hp with rfl | hp
  · exact sF53_eq inv k
  rcases List.mem_cons.1 hp with rfl | hp
  · exact sF54_eq inv k
  rcases List.mem_cons.1 hp with rfl | hp
  · exact sF55_eq inv k
  rcases List.mem_cons.1 hp with rfl | hp
  · exact sF57_eq inv k
  rcases List.mem_cons.1 hp with rfl | hp
  · exact sF58_eq inv k
  rcases List.mem_cons.1 hp with rfl | hp
  · exact sF60_eq inv k
  rcases List.mem_cons.1 hp with rfl | hp
  · exact sF61_eq inv k
  rcases List.mem_cons.1 hp with rfl | hp
  · exact sF62_eq inv k
  rcases List.mem_cons.1 hp with rfl | hp
  · exact sF63_eq inv k
  rcases List.mem_cons.1 hp with rfl | hp
  · exact sF64_eq inv k
  rcases List.mem_cons.1 hp with rfl | hp
  · exact sF65_eq inv k
  rcases List.mem_cons.1 hp with rfl | hp
  · exact sF69_eq inv k
  rcases List.mem_cons.1 hp with rfl | hp
  · exact sF70_eq inv k
  rcases List.mem_cons.1 hp with rfl | hp
  · exact sF71_eq inv k
  rcases List.mem_cons.1 hp with rfl | hp
  · exact sF72_eq inv k
  rcases List.mem_cons.1 hp with rfl | hp
  · exact sF109_eq inv k
  rcases List.mem_cons.1 hp with rfl | hp
  · exact sF110_eq inv k
  rcases List.mem_cons.1 hp with rfl | hp
  · exact sF111_eq inv k
  rcases List.mem_cons.1 hp with rfl | hp
  · exact sF112_eq inv k
  rcases List.mem_cons.1 hp with rfl | hp
  · exact sF113_eq inv k
  rcases List.mem_cons.1 hp with rfl | hp
  · exact sF114_eq inv k
  rcases List.mem_cons.1 hp with rfl | hp
  · exact sF115_eq inv k
  rcases List.mem_cons.1 hp with rfl | hp
  · exact sF116_eq inv k
  rcases List.mem_cons.1 hp with rfl | hp
  · exact sF117_eq inv k
  rcases List.mem_cons.1 hp with rfl | hp
  · exact sF118_eq inv k
  rcases List.mem_cons.1 hp with rfl | hp
  · exact sF119_eq inv k
  rcases List.mem_cons.1 hp with rfl | hp
  · exact sF120_eq inv k
  rcases List.mem_cons.1 hp with rfl | hp
  · exact sF121_eq inv k
  rcases List.mem_cons.1 hp with rfl | hp
  · exact sF122_eq inv k
  rcases List.mem_cons.1 hp with rfl | hp
  · exact sF123_eq inv k
  rcases List.mem_cons.1 hp with rfl | hp
  · exact sF124_eq inv k
  rcases List.mem_cons.1 hp with rfl | hp
  · exact sF125_eq inv k
  rcases List.mem_cons.1 hp with rfl | hp
  · exact sF126_eq inv k
  rcases List.mem_cons.1 hp with rfl | hp
  · exact sF127_eq inv k
  cases hp
noncomputable def sFun (inv : Inv) (k : Nat) (f : FuncId) (args : Array Value) (h : AH) : Option (Value × AH) := pickF (eFun env k inv f) (sTab inv k) f args h
theorem sFun_eq (inv : Inv) (k : Nat) (f : FuncId) (args : Array Value) (h : AH) : sFun inv k f args h = eFun env k inv f args h :=
  pickF_spec (fun j (g : Array Value → AH → Option (Value × AH)) => ∀ args h, g args h = eFun env k inv j args h) (fun _ _ => rfl) (sTab inv k) (sTab_eq inv k) args h
noncomputable def sInv : Nat → Inv
  | 0 => fun _ _ _ _ => none
  | k + 1 => fun fn captured args h => match eTarget env.P fn captured args with
    | some (true, f, as1) => (match env.X f with
      | some g => (g as1).map fun v => (v, h)
      | none => sFun (sInv k) k f as1 h)
    | some (false, l, as1) => eRound env k (sInv k) l as1 h
    | none => none
theorem sInv_eq (k : Nat) : sInv k = eInv env k := by
  induction k with
  | zero => rfl
  | succ k ih =>
    funext fn captured args h
    simp only [sInv, eInv, ih, sFun_eq]
    cases eTarget env.P fn captured args with
    | none => rfl
    | some q =>
      obtain ⟨b, f, as1⟩ := q
      cases b
      · rfl
      · dsimp only; cases env.X f <;> rfl
end Go.Proofs.Ytgklcfnjahomjaa.Sh
