/- The shallow functions together. Printed by a program of the prover's own from the loaded program; Lean checks it. -/
import Derived.Test.YtagcejlclcldcaaSzF
set_option linter.unusedVariables false
set_option linter.unusedSimpArgs false
set_option maxRecDepth 100000
namespace Go.Proofs.Ytagcejlclcldcaa.Sh
open Go Go.RowKit Go.Proofs.Ev
set_option maxHeartbeats 40000000
noncomputable def sF5 (inv : Inv) (k : Nat) (args : Array Value) (h : AH) : Option (Value × AH) := match args with
  | ⟨[]⟩ => F5 inv k  h
  | args => eFun env k inv 5 args h
theorem sF5_eq (inv : Inv) (k : Nat) (args : Array Value) (h : AH) : sF5 inv k args h = eFun env k inv 5 args h := by
  unfold sF5
  split
  · exact F5_eq.symm
  · rfl
noncomputable def sF8 (inv : Inv) (k : Nat) (args : Array Value) (h : AH) : Option (Value × AH) := match args with
  | ⟨[]⟩ => F8 inv k  h
  | args => eFun env k inv 8 args h
theorem sF8_eq (inv : Inv) (k : Nat) (args : Array Value) (h : AH) : sF8 inv k args h = eFun env k inv 8 args h := by
  unfold sF8
  split
  · exact F8_eq.symm
  · rfl
noncomputable def sF10 (inv : Inv) (k : Nat) (args : Array Value) (h : AH) : Option (Value × AH) := match args with
  | ⟨[x0]⟩ => F10 inv k x0 h
  | args => eFun env k inv 10 args h
theorem sF10_eq (inv : Inv) (k : Nat) (args : Array Value) (h : AH) : sF10 inv k args h = eFun env k inv 10 args h := by
  unfold sF10
  split
  · exact F10_eq.symm
  · rfl
noncomputable def sF14 (inv : Inv) (k : Nat) (args : Array Value) (h : AH) : Option (Value × AH) := match args with
  | ⟨[x0, x1]⟩ => F14 inv k x0 x1 h
  | args => eFun env k inv 14 args h
theorem sF14_eq (inv : Inv) (k : Nat) (args : Array Value) (h : AH) : sF14 inv k args h = eFun env k inv 14 args h := by
  unfold sF14
  split
  · exact F14_eq.symm
  · rfl
noncomputable def sF15 (inv : Inv) (k : Nat) (args : Array Value) (h : AH) : Option (Value × AH) := match args with
  | ⟨[x0]⟩ => F15 inv k x0 h
  | args => eFun env k inv 15 args h
theorem sF15_eq (inv : Inv) (k : Nat) (args : Array Value) (h : AH) : sF15 inv k args h = eFun env k inv 15 args h := by
  unfold sF15
  split
  · exact F15_eq.symm
  · rfl
noncomputable def sF16 (inv : Inv) (k : Nat) (args : Array Value) (h : AH) : Option (Value × AH) := match args with
  | ⟨[x0]⟩ => F16 inv k x0 h
  | args => eFun env k inv 16 args h
theorem sF16_eq (inv : Inv) (k : Nat) (args : Array Value) (h : AH) : sF16 inv k args h = eFun env k inv 16 args h := by
  unfold sF16
  split
  · exact F16_eq.symm
  · rfl
noncomputable def sF17 (inv : Inv) (k : Nat) (args : Array Value) (h : AH) : Option (Value × AH) := match args with
  | ⟨[x0]⟩ => F17 inv k x0 h
  | args => eFun env k inv 17 args h
theorem sF17_eq (inv : Inv) (k : Nat) (args : Array Value) (h : AH) : sF17 inv k args h = eFun env k inv 17 args h := by
  unfold sF17
  split
  · exact F17_eq.symm
  · rfl
noncomputable def sF18 (inv : Inv) (k : Nat) (args : Array Value) (h : AH) : Option (Value × AH) := match args with
  | ⟨[x0]⟩ => F18 inv k x0 h
  | args => eFun env k inv 18 args h
theorem sF18_eq (inv : Inv) (k : Nat) (args : Array Value) (h : AH) : sF18 inv k args h = eFun env k inv 18 args h := by
  unfold sF18
  split
  · exact F18_eq.symm
  · rfl
noncomputable def sF19 (inv : Inv) (k : Nat) (args : Array Value) (h : AH) : Option (Value × AH) := match args with
  | ⟨[x0, x1]⟩ => F19 inv k x0 x1 h
  | args => eFun env k inv 19 args h
theorem sF19_eq (inv : Inv) (k : Nat) (args : Array Value) (h : AH) : sF19 inv k args h = eFun env k inv 19 args h := by
  unfold sF19
  split
  · exact F19_eq.symm
  · rfl
noncomputable def sF28 (inv : Inv) (k : Nat) (args : Array Value) (h : AH) : Option (Value × AH) := match args with
  | ⟨[x0]⟩ => F28 inv k x0 h
  | args => eFun env k inv 28 args h
theorem sF28_eq (inv : Inv) (k : Nat) (args : Array Value) (h : AH) : sF28 inv k args h = eFun env k inv 28 args h := by
  unfold sF28
  split
  · exact F28_eq.symm
  · rfl
noncomputable def sF29 (inv : Inv) (k : Nat) (args : Array Value) (h : AH) : Option (Value × AH) := match args with
  | ⟨[x0]⟩ => F29 inv k x0 h
  | args => eFun env k inv 29 args h
theorem sF29_eq (inv : Inv) (k : Nat) (args : Array Value) (h : AH) : sF29 inv k args h = eFun env k inv 29 args h := by
  unfold sF29
  split
  · exact F29_eq.symm
  · rfl
noncomputable def sF30 (inv : Inv) (k : Nat) (args : Array Value) (h : AH) : Option (Value × AH) := match args with
  | ⟨[x0, x1]⟩ => F30 inv k x0 x1 h
  | args => eFun env k inv 30 args h
theorem sF30_eq (inv : Inv) (k : Nat) (args : Array Value) (h : AH) : sF30 inv k args h = eFun env k inv 30 args h := by
  unfold sF30
  split
  · exact F30_eq.symm
  · rfl
noncomputable def sF31 (inv : Inv) (k : Nat) (args : Array Value) (h : AH) : Option (Value × AH) := match args with
  | ⟨[x0, x1]⟩ => F31 inv k x0 x1 h
  | args => eFun env k inv 31 args h
theorem sF31_eq (inv : Inv) (k : Nat) (args : Array Value) (h : AH) : sF31 inv k args h = eFun env k inv 31 args h := by
  unfold sF31
  split
  · exact F31_eq.symm
  · rfl
noncomputable def sF32 (inv : Inv) (k : Nat) (args : Array Value) (h : AH) : Option (Value × AH) := match args with
  | ⟨[x0, x1]⟩ => F32 inv k x0 x1 h
  | args => eFun env k inv 32 args h
theorem sF32_eq (inv : Inv) (k : Nat) (args : Array Value) (h : AH) : sF32 inv k args h = eFun env k inv 32 args h := by
  unfold sF32
  split
  · exact F32_eq.symm
  · rfl
noncomputable def sF33 (inv : Inv) (k : Nat) (args : Array Value) (h : AH) : Option (Value × AH) := match args with
  | ⟨[x0]⟩ => F33 inv k x0 h
  | args => eFun env k inv 33 args h
theorem sF33_eq (inv : Inv) (k : Nat) (args : Array Value) (h : AH) : sF33 inv k args h = eFun env k inv 33 args h := by
  unfold sF33
  split
  · exact F33_eq.symm
  · rfl
noncomputable def sF34 (inv : Inv) (k : Nat) (args : Array Value) (h : AH) : Option (Value × AH) := match args with
  | ⟨[x0, x1]⟩ => F34 inv k x0 x1 h
  | args => eFun env k inv 34 args h
theorem sF34_eq (inv : Inv) (k : Nat) (args : Array Value) (h : AH) : sF34 inv k args h = eFun env k inv 34 args h := by
  unfold sF34
  split
  · exact F34_eq.symm
  · rfl
noncomputable def sF35 (inv : Inv) (k : Nat) (args : Array Value) (h : AH) : Option (Value × AH) := match args with
  | ⟨[x0]⟩ => F35 inv k x0 h
  | args => eFun env k inv 35 args h
theorem sF35_eq (inv : Inv) (k : Nat) (args : Array Value) (h : AH) : sF35 inv k args h = eFun env k inv 35 args h := by
  unfold sF35
  split
  · exact F35_eq.symm
  · rfl
noncomputable def sF36 (inv : Inv) (k : Nat) (args : Array Value) (h : AH) : Option (Value × AH) := match args with
  | ⟨[x0, x1]⟩ => F36 inv k x0 x1 h
  | args => eFun env k inv 36 args h
theorem sF36_eq (inv : Inv) (k : Nat) (args : Array Value) (h : AH) : sF36 inv k args h = eFun env k inv 36 args h := by
  unfold sF36
  split
  · exact F36_eq.symm
  · rfl
noncomputable def sF37 (inv : Inv) (k : Nat) (args : Array Value) (h : AH) : Option (Value × AH) := match args with
  | ⟨[x0]⟩ => F37 inv k x0 h
  | args => eFun env k inv 37 args h
theorem sF37_eq (inv : Inv) (k : Nat) (args : Array Value) (h : AH) : sF37 inv k args h = eFun env k inv 37 args h := by
  unfold sF37
  split
  · exact F37_eq.symm
  · rfl
noncomputable def sF38 (inv : Inv) (k : Nat) (args : Array Value) (h : AH) : Option (Value × AH) := match args with
  | ⟨[x0, x1]⟩ => F38 inv k x0 x1 h
  | args => eFun env k inv 38 args h
theorem sF38_eq (inv : Inv) (k : Nat) (args : Array Value) (h : AH) : sF38 inv k args h = eFun env k inv 38 args h := by
  unfold sF38
  split
  · exact F38_eq.symm
  · rfl
noncomputable def sF39 (inv : Inv) (k : Nat) (args : Array Value) (h : AH) : Option (Value × AH) := match args with
  | ⟨[x0, x1]⟩ => F39 inv k x0 x1 h
  | args => eFun env k inv 39 args h
theorem sF39_eq (inv : Inv) (k : Nat) (args : Array Value) (h : AH) : sF39 inv k args h = eFun env k inv 39 args h := by
  unfold sF39
  split
  · exact F39_eq.symm
  · rfl
noncomputable def sF40 (inv : Inv) (k : Nat) (args : Array Value) (h : AH) : Option (Value × AH) := match args with
  | ⟨[x0, x1]⟩ => F40 inv k x0 x1 h
  | args => eFun env k inv 40 args h
theorem sF40_eq (inv : Inv) (k : Nat) (args : Array Value) (h : AH) : sF40 inv k args h = eFun env k inv 40 args h := by
  unfold sF40
  split
  · exact F40_eq.symm
  · rfl
noncomputable def sF53 (inv : Inv) (k : Nat) (args : Array Value) (h : AH) : Option (Value × AH) := match args with
  | ⟨[x0, x1]⟩ => F53 inv k x0 x1 h
  | args => eFun env k inv 53 args h
theorem sF53_eq (inv : Inv) (k : Nat) (args : Array Value) (h : AH) : sF53 inv k args h = eFun env k inv 53 args h := by
  unfold sF53
  split
  · exact F53_eq.symm
  · rfl
noncomputable def sF54 (inv : Inv) (k : Nat) (args : Array Value) (h : AH) : Option (Value × AH) := match args with
  | ⟨[x0, x1]⟩ => F54 inv k x0 x1 h
  | args => eFun env k inv 54 args h
theorem sF54_eq (inv : Inv) (k : Nat) (args : Array Value) (h : AH) : sF54 inv k args h = eFun env k inv 54 args h := by
  unfold sF54
  split
  · exact F54_eq.symm
  · rfl
noncomputable def sF55 (inv : Inv) (k : Nat) (args : Array Value) (h : AH) : Option (Value × AH) := match args with
  | ⟨[x0]⟩ => F55 inv k x0 h
  | args => eFun env k inv 55 args h
theorem sF55_eq (inv : Inv) (k : Nat) (args : Array Value) (h : AH) : sF55 inv k args h = eFun env k inv 55 args h := by
  unfold sF55
  split
  · exact F55_eq.symm
  · rfl
noncomputable def sF56 (inv : Inv) (k : Nat) (args : Array Value) (h : AH) : Option (Value × AH) := match args with
  | ⟨[x0, x1]⟩ => F56 inv k x0 x1 h
  | args => eFun env k inv 56 args h
theorem sF56_eq (inv : Inv) (k : Nat) (args : Array Value) (h : AH) : sF56 inv k args h = eFun env k inv 56 args h := by
  unfold sF56
  split
  · exact F56_eq.symm
  · rfl
noncomputable def sF57 (inv : Inv) (k : Nat) (args : Array Value) (h : AH) : Option (Value × AH) := match args with
  | ⟨[x0]⟩ => F57 inv k x0 h
  | args => eFun env k inv 57 args h
theorem sF57_eq (inv : Inv) (k : Nat) (args : Array Value) (h : AH) : sF57 inv k args h = eFun env k inv 57 args h := by
  unfold sF57
  split
  · exact F57_eq.symm
  · rfl
noncomputable def sF58 (inv : Inv) (k : Nat) (args : Array Value) (h : AH) : Option (Value × AH) := match args with
  | ⟨[x0]⟩ => F58 inv k x0 h
  | args => eFun env k inv 58 args h
theorem sF58_eq (inv : Inv) (k : Nat) (args : Array Value) (h : AH) : sF58 inv k args h = eFun env k inv 58 args h := by
  unfold sF58
  split
  · exact F58_eq.symm
  · rfl
noncomputable def sF59 (inv : Inv) (k : Nat) (args : Array Value) (h : AH) : Option (Value × AH) := match args with
  | ⟨[x0, x1]⟩ => F59 inv k x0 x1 h
  | args => eFun env k inv 59 args h
theorem sF59_eq (inv : Inv) (k : Nat) (args : Array Value) (h : AH) : sF59 inv k args h = eFun env k inv 59 args h := by
  unfold sF59
  split
  · exact F59_eq.symm
  · rfl
noncomputable def sF60 (inv : Inv) (k : Nat) (args : Array Value) (h : AH) : Option (Value × AH) := match args with
  | ⟨[x0, x1]⟩ => F60 inv k x0 x1 h
  | args => eFun env k inv 60 args h
theorem sF60_eq (inv : Inv) (k : Nat) (args : Array Value) (h : AH) : sF60 inv k args h = eFun env k inv 60 args h := by
  unfold sF60
  split
  · exact F60_eq.symm
  · rfl
noncomputable def sF61 (inv : Inv) (k : Nat) (args : Array Value) (h : AH) : Option (Value × AH) := match args with
  | ⟨[x0, x1, x2, x3]⟩ => F61 inv k x0 x1 x2 x3 h
  | args => eFun env k inv 61 args h
theorem sF61_eq (inv : Inv) (k : Nat) (args : Array Value) (h : AH) : sF61 inv k args h = eFun env k inv 61 args h := by
  unfold sF61
  split
  · exact F61_eq.symm
  · rfl
noncomputable def sF62 (inv : Inv) (k : Nat) (args : Array Value) (h : AH) : Option (Value × AH) := match args with
  | ⟨[x0]⟩ => F62 inv k x0 h
  | args => eFun env k inv 62 args h
theorem sF62_eq (inv : Inv) (k : Nat) (args : Array Value) (h : AH) : sF62 inv k args h = eFun env k inv 62 args h := by
  unfold sF62
  split
  · exact F62_eq.symm
  · rfl
noncomputable def sF63 (inv : Inv) (k : Nat) (args : Array Value) (h : AH) : Option (Value × AH) := match args with
  | ⟨[x0, x1]⟩ => F63 inv k x0 x1 h
  | args => eFun env k inv 63 args h
theorem sF63_eq (inv : Inv) (k : Nat) (args : Array Value) (h : AH) : sF63 inv k args h = eFun env k inv 63 args h := by
  unfold sF63
  split
  · exact F63_eq.symm
  · rfl
noncomputable def sF64 (inv : Inv) (k : Nat) (args : Array Value) (h : AH) : Option (Value × AH) := match args with
  | ⟨[x0]⟩ => F64 inv k x0 h
  | args => eFun env k inv 64 args h
theorem sF64_eq (inv : Inv) (k : Nat) (args : Array Value) (h : AH) : sF64 inv k args h = eFun env k inv 64 args h := by
  unfold sF64
  split
  · exact F64_eq.symm
  · rfl
noncomputable def sF65 (inv : Inv) (k : Nat) (args : Array Value) (h : AH) : Option (Value × AH) := match args with
  | ⟨[x0]⟩ => F65 inv k x0 h
  | args => eFun env k inv 65 args h
theorem sF65_eq (inv : Inv) (k : Nat) (args : Array Value) (h : AH) : sF65 inv k args h = eFun env k inv 65 args h := by
  unfold sF65
  split
  · exact F65_eq.symm
  · rfl
noncomputable def sF66 (inv : Inv) (k : Nat) (args : Array Value) (h : AH) : Option (Value × AH) := match args with
  | ⟨[x0, x1]⟩ => F66 inv k x0 x1 h
  | args => eFun env k inv 66 args h
theorem sF66_eq (inv : Inv) (k : Nat) (args : Array Value) (h : AH) : sF66 inv k args h = eFun env k inv 66 args h := by
  unfold sF66
  split
  · exact F66_eq.symm
  · rfl
noncomputable def sF67 (inv : Inv) (k : Nat) (args : Array Value) (h : AH) : Option (Value × AH) := match args with
  | ⟨[x0]⟩ => F67 inv k x0 h
  | args => eFun env k inv 67 args h
theorem sF67_eq (inv : Inv) (k : Nat) (args : Array Value) (h : AH) : sF67 inv k args h = eFun env k inv 67 args h := by
  unfold sF67
  split
  · exact F67_eq.symm
  · rfl
noncomputable def sF68 (inv : Inv) (k : Nat) (args : Array Value) (h : AH) : Option (Value × AH) := match args with
  | ⟨[x0, x1, x2]⟩ => F68 inv k x0 x1 x2 h
  | args => eFun env k inv 68 args h
theorem sF68_eq (inv : Inv) (k : Nat) (args : Array Value) (h : AH) : sF68 inv k args h = eFun env k inv 68 args h := by
  unfold sF68
  split
  · exact F68_eq.symm
  · rfl
noncomputable def sF78 (inv : Inv) (k : Nat) (args : Array Value) (h : AH) : Option (Value × AH) := match args with
  | ⟨[x0, x1]⟩ => F78 inv k x0 x1 h
  | args => eFun env k inv 78 args h
theorem sF78_eq (inv : Inv) (k : Nat) (args : Array Value) (h : AH) : sF78 inv k args h = eFun env k inv 78 args h := by
  unfold sF78
  split
  · exact F78_eq.symm
  · rfl
noncomputable def sF79 (inv : Inv) (k : Nat) (args : Array Value) (h : AH) : Option (Value × AH) := match args with
  | ⟨[x0]⟩ => F79 inv k x0 h
  | args => eFun env k inv 79 args h
theorem sF79_eq (inv : Inv) (k : Nat) (args : Array Value) (h : AH) : sF79 inv k args h = eFun env k inv 79 args h := by
  unfold sF79
  split
  · exact F79_eq.symm
  · rfl
noncomputable def sF80 (inv : Inv) (k : Nat) (args : Array Value) (h : AH) : Option (Value × AH) := match args with
  | ⟨[x0]⟩ => F80 inv k x0 h
  | args => eFun env k inv 80 args h
theorem sF80_eq (inv : Inv) (k : Nat) (args : Array Value) (h : AH) : sF80 inv k args h = eFun env k inv 80 args h := by
  unfold sF80
  split
  · exact F80_eq.symm
  · rfl
noncomputable def sF81 (inv : Inv) (k : Nat) (args : Array Value) (h : AH) : Option (Value × AH) := match args with
  | ⟨[x0, x1]⟩ => F81 inv k x0 x1 h
  | args => eFun env k inv 81 args h
theorem sF81_eq (inv : Inv) (k : Nat) (args : Array Value) (h : AH) : sF81 inv k args h = eFun env k inv 81 args h := by
  unfold sF81
  split
  · exact F81_eq.symm
  · rfl
noncomputable def sF82 (inv : Inv) (k : Nat) (args : Array Value) (h : AH) : Option (Value × AH) := match args with
  | ⟨[x0]⟩ => F82 inv k x0 h
  | args => eFun env k inv 82 args h
theorem sF82_eq (inv : Inv) (k : Nat) (args : Array Value) (h : AH) : sF82 inv k args h = eFun env k inv 82 args h := by
  unfold sF82
  split
  · exact F82_eq.symm
  · rfl
noncomputable def sF83 (inv : Inv) (k : Nat) (args : Array Value) (h : AH) : Option (Value × AH) := match args with
  | ⟨[x0, x1, x2]⟩ => F83 inv k x0 x1 x2 h
  | args => eFun env k inv 83 args h
theorem sF83_eq (inv : Inv) (k : Nat) (args : Array Value) (h : AH) : sF83 inv k args h = eFun env k inv 83 args h := by
  unfold sF83
  split
  · exact F83_eq.symm
  · rfl
noncomputable def sF84 (inv : Inv) (k : Nat) (args : Array Value) (h : AH) : Option (Value × AH) := match args with
  | ⟨[x0, x1, x2]⟩ => F84 inv k x0 x1 x2 h
  | args => eFun env k inv 84 args h
theorem sF84_eq (inv : Inv) (k : Nat) (args : Array Value) (h : AH) : sF84 inv k args h = eFun env k inv 84 args h := by
  unfold sF84
  split
  · exact F84_eq.symm
  · rfl
noncomputable def sF95 (inv : Inv) (k : Nat) (args : Array Value) (h : AH) : Option (Value × AH) := match args with
  | ⟨[x0, x1]⟩ => F95 inv k x0 x1 h
  | args => eFun env k inv 95 args h
theorem sF95_eq (inv : Inv) (k : Nat) (args : Array Value) (h : AH) : sF95 inv k args h = eFun env k inv 95 args h := by
  unfold sF95
  split
  · exact F95_eq.symm
  · rfl
noncomputable def sF96 (inv : Inv) (k : Nat) (args : Array Value) (h : AH) : Option (Value × AH) := match args with
  | ⟨[x0, x1]⟩ => F96 inv k x0 x1 h
  | args => eFun env k inv 96 args h
theorem sF96_eq (inv : Inv) (k : Nat) (args : Array Value) (h : AH) : sF96 inv k args h = eFun env k inv 96 args h := by
  unfold sF96
  split
  · exact F96_eq.symm
  · rfl
noncomputable def sF97 (inv : Inv) (k : Nat) (args : Array Value) (h : AH) : Option (Value × AH) := match args with
  | ⟨[x0, x1, x2]⟩ => F97 inv k x0 x1 x2 h
  | args => eFun env k inv 97 args h
theorem sF97_eq (inv : Inv) (k : Nat) (args : Array Value) (h : AH) : sF97 inv k args h = eFun env k inv 97 args h := by
  unfold sF97
  split
  · exact F97_eq.symm
  · rfl
noncomputable def sF98 (inv : Inv) (k : Nat) (args : Array Value) (h : AH) : Option (Value × AH) := match args with
  | ⟨[x0, x1, x2, x3]⟩ => F98 inv k x0 x1 x2 x3 h
  | args => eFun env k inv 98 args h
theorem sF98_eq (inv : Inv) (k : Nat) (args : Array Value) (h : AH) : sF98 inv k args h = eFun env k inv 98 args h := by
  unfold sF98
  split
  · exact F98_eq.symm
  · rfl
def pickF {α : Type} (d : α) : List (Nat × α) → Nat → α
  | [], _ => d
  | (i, x) :: l, j => bif Nat.beq i j then x else pickF d l j
theorem pickF_spec {α : Type} {d : α} {j : Nat} (P : Nat → α → Prop) (hd : P j d) : ∀ (l : List (Nat × α)), (∀ p ∈ l, P p.1 p.2) → P j (pickF d l j)
  | [], _ => hd
  | (i, x) :: l, h => by
    unfold pickF
    cases q : Nat.beq i j
    · exact pickF_spec P hd l fun p hp => h p (List.mem_cons_of_mem _ hp)
    · have : i = j := Nat.eq_of_beq_eq_true q
      subst this
      exact h _ (List.mem_cons_self ..)
noncomputable def sTab (inv : Inv) (k : Nat) : List (Nat × (Array Value → AH → Option (Value × AH))) := [(5, sF5 inv k), (8, sF8 inv k), (10, sF10 inv k), (14, sF14 inv k), (15, sF15 inv k), (16, sF16 inv k), (17, sF17 inv k), (18, sF18 inv k), (19, sF19 inv k), (28, sF28 inv k), (29, sF29 inv k), (30, sF30 inv k), (31, sF31 inv k), (32, sF32 inv k), (33, sF33 inv k), (34, sF34 inv k), (35, sF35 inv k), (36, sF36 inv k), (37, sF37 inv k), (38, sF38 inv k), (39, sF39 inv k), (40, sF40 inv k), (53, sF53 inv k), (54, sF54 inv k), (55, sF55 inv k), (56, sF56 inv k), (57, sF57 inv k), (58, sF58 inv k), (59, sF59 inv k), (60, sF60 inv k), (61, sF61 inv k), (62, sF62 inv k), (63, sF63 inv k), (64, sF64 inv k), (65, sF65 inv k), (66, sF66 inv k), (67, sF67 inv k), (68, sF68 inv k), (78, sF78 inv k), (79, sF79 inv k), (80, sF80 inv k), (81, sF81 inv k), (82, sF82 inv k), (83, sF83 inv k), (84, sF84 inv k), (95, sF95 inv k), (96, sF96 inv k), (97, sF97 inv k), (98, sF98 inv k)]
theorem sTab_eq (inv : Inv) (k : Nat) : ∀ p ∈ sTab inv k, ∀ args h, p.2 args h = eFun env k inv p.1 args h := by
  unfold sTab
  intro p hp
  rcases List.mem_cons.1 hp with rfl | hp
  · exact sF5_eq inv k
  rcases List.mem_cons.1 hp with rfl | hp
  · exact sF8_eq inv k
  rcases List.mem_cons.1 hp with rfl | hp
  · exact sF10_eq inv k
  rcases List.mem_cons.1 hp with rfl | hp
  · exact sF14_eq inv k
  rcases List.mem_cons.1 hp with rfl | hp
  · exact sF15_eq inv k
  rcases List.mem_cons.1 hp with rfl | hp
  · exact sF16_eq inv k
  rcases List.mem_cons.1 hp with rfl | hp
  · exact sF17_eq inv k
  rcases List.mem_cons.1 hp with rfl | hp
  · exact sF18_eq inv k
  rcases List.mem_cons.1 hp with rfl | hp
  · exact sF19_eq inv k
  rcases List.mem_cons.1 hp with rfl | hp
  · exact sF28_eq inv k
  rcases List.mem_cons.1 hp with rfl | hp
  · exact sF29_eq inv k
  rcases List.mem_cons.1 hp with rfl | hp
  · exact sF30_eq inv k
  rcases List.mem_cons.1 hp with rfl | hp
  · exact sF31_eq inv k
  rcases List.mem_cons.1 hp with rfl | hp
  · exact sF32_eq inv k
  rcases List.mem_cons.1 hp with rfl | hp
  · exact sF33_eq inv k
  rcases List.mem_cons.1 hp with rfl | hp
  · exact sF34_eq inv k
  rcases List.mem_cons.1 hp with rfl | hp
  · exact sF35_eq inv k
  rcases List.mem_cons.1 hp with rfl | hp
  · exact sF36_eq inv k
  rcases List.mem_cons.1 hp with rfl | hp
  · exact sF37_eq inv k
  rcases List.mem_cons.1 hp with rfl | hp
  · exact sF38_eq inv k
  rcases List.mem_cons.1 hp with rfl | hp
  · exact sF39_eq inv k
  rcases List.mem_cons.1 hp with rfl | hp
  · exact sF40_eq inv k
  rcases List.mem_cons.1 hp with rfl | hp
  · exact sF53_eq inv k
  rcases List.mem_cons.1 hp with rfl | hp
  · exact sF54_eq inv k
  rcases List.mem_cons.1 hp with rfl | hp
  · exact sF55_eq inv k
  rcases List.mem_cons.1 hp with rfl | hp
  · exact sF56_eq inv k
  rcases List.mem_cons.1 hp with rfl | hp
  · exact sF57_eq inv k
  rcases List.mem_cons.1 hp with rfl | hp
  · exact sF58_eq inv k
  rcases List.mem_cons.1 hp with rfl | hp
  · exact sF59_eq inv k
  rcases List.mem_cons.1 hp with rfl | hp
  · exact sF60_eq inv k
  rcases List.mem_cons.1 hp with rfl | hp
  · exact sF61_eq inv k
  rcases List.mem_cons.1 hp with rfl | hp
  · exact sF62_eq inv k
  rcases List.mem_cons.1 hp with rfl | hp
  · exact sF63_eq inv k
  rcases List.mem_cons.1 hp with rfl | hp
  · exact sF64_eq inv k
  rcases List.mem_cons.1 hp with rfl | hp
  · exact sF65_eq inv k
  rcases List.mem_cons.1 hp with rfl | hp
  · exact sF66_eq inv k
  rcases List.mem_cons.1 hp with rfl | hp
  · exact sF67_eq inv k
  rcases List.mem_cons.1 hp with rfl | hp
  · exact sF68_eq inv k
  rcases List.mem_cons.1 hp with rfl | hp
  · exact sF78_eq inv k
  rcases List.mem_cons.1 hp with rfl | hp
  · exact sF79_eq inv k
  rcases List.mem_cons.1 hp with rfl | hp
  · exact sF80_eq inv k
  rcases List.mem_cons.1 hp with rfl | hp
  · exact sF81_eq inv k
  rcases List.mem_cons.1 hp with rfl | hp
  · exact sF82_eq inv k
  rcases List.mem_cons.1 hp with rfl | hp
  · exact sF83_eq inv k
  rcases List.mem_cons.1 hp with rfl | hp
  · exact sF84_eq inv k
  rcases List.mem_cons.1 hp with rfl | hp
  · exact sF95_eq inv k
  rcases List.mem_cons.1 hp with rfl | hp
  · exact sF96_eq inv k
  rcases List.mem_cons.1 hp with rfl | hp
  · exact sF97_eq inv k
  rcases List.mem_cons.1 hp with rfl | hp
  · exact sF98_eq inv k
  cases hp
noncomputable def sFun (inv : Inv) (k : Nat) (f : FuncId) (args : Array Value) (h : AH) : Option (Value × AH) := pickF (eFun env k inv f) (sTab inv k) f args h
theorem sFun_eq (inv : Inv) (k : Nat) (f : FuncId) (args : Array Value) (h : AH) : sFun inv k f args h = eFun env k inv f args h :=
  pickF_spec (fun j (g : Array Value → AH → Option (Value × AH)) => ∀ args h, g args h = eFun env k inv j args h) (fun _ _ => rfl) (sTab inv k) (sTab_eq inv k) args h
noncomputable def sInv : Nat → Inv
  | 0 => fun _ _ _ _ => none
  | k + 1 => fun fn captured args h => match eTarget env.P fn captured args with
    | some (true, f, as1) => (match env.X f with
      | some g => (g as1).map fun v => (v, h)
      | none => sFun (sInv k) k f as1 h)
    | some (false, l, as1) => eRound env k (sInv k) l as1 h
    | none => none
theorem sInv_eq (k : Nat) : sInv k = eInv env k := by
  induction k with
  | zero => rfl
  | succ k ih =>
    funext fn captured args h
    simp only [sInv, eInv, ih, sFun_eq]
    cases eTarget env.P fn captured args with
    | none => rfl
    | some q =>
      obtain ⟨b, f, as1⟩ := q
      cases b
      · rfl
      · dsimp only; cases env.X f <;> rfl
end Go.Proofs.Ytagcejlclcldcaa.Sh
