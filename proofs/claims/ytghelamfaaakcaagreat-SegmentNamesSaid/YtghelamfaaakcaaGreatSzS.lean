/- The shallow functions together. Printed by a program of the prover's own from the loaded program; Lean checks it. -/
import Derived.Test.YtghelamfaaakcaaGreatSzF
set_option linter.unusedVariables false
set_option linter.unusedSimpArgs false
set_option maxRecDepth 100000
namespace Go.Proofs.YtghelamfaaakcaaGreat.Sh
open Go Go.RowKit Go.Proofs.Ev
set_option maxHeartbeats 40000000
noncomputable def sF6 (inv : Inv) (k : Nat) (args : Array Value) (h : AH) : Option (Value × AH) := match args with
  | ⟨[]⟩ => F6 inv k  h
  | args => eFun env k inv 6 args h
theorem sF6_eq (inv : Inv) (k : Nat) (args : Array Value) (h : AH) : sF6 inv k args h = eFun env k inv 6 args h := by
  unfold sF6
  split
  · exact F6_eq.symm
  · rfl
noncomputable def sF9 (inv : Inv) (k : Nat) (args : Array Value) (h : AH) : Option (Value × AH) := match args with
  | ⟨[]⟩ => F9 inv k  h
  | args => eFun env k inv 9 args h
theorem sF9_eq (inv : Inv) (k : Nat) (args : Array Value) (h : AH) : sF9 inv k args h = eFun env k inv 9 args h := by
  unfold sF9
  split
  · exact F9_eq.symm
  · rfl
noncomputable def sF11 (inv : Inv) (k : Nat) (args : Array Value) (h : AH) : Option (Value × AH) := match args with
  | ⟨[x0, x1]⟩ => F11 inv k x0 x1 h
  | args => eFun env k inv 11 args h
theorem sF11_eq (inv : Inv) (k : Nat) (args : Array Value) (h : AH) : sF11 inv k args h = eFun env k inv 11 args h := by
  unfold sF11
  split
  · exact F11_eq.symm
  · rfl
noncomputable def sF13 (inv : Inv) (k : Nat) (args : Array Value) (h : AH) : Option (Value × AH) := match args with
  | ⟨[x0, x1]⟩ => F13 inv k x0 x1 h
  | args => eFun env k inv 13 args h
theorem sF13_eq (inv : Inv) (k : Nat) (args : Array Value) (h : AH) : sF13 inv k args h = eFun env k inv 13 args h := by
  unfold sF13
  split
  · exact F13_eq.symm
  · rfl
noncomputable def sF15 (inv : Inv) (k : Nat) (args : Array Value) (h : AH) : Option (Value × AH) := match args with
  | ⟨[x0]⟩ => F15 inv k x0 h
  | args => eFun env k inv 15 args h
theorem sF15_eq (inv : Inv) (k : Nat) (args : Array Value) (h : AH) : sF15 inv k args h = eFun env k inv 15 args h := by
  unfold sF15
  split
  · exact F15_eq.symm
  · rfl
noncomputable def sF20 (inv : Inv) (k : Nat) (args : Array Value) (h : AH) : Option (Value × AH) := match args with
  | ⟨[x0]⟩ => F20 inv k x0 h
  | args => eFun env k inv 20 args h
theorem sF20_eq (inv : Inv) (k : Nat) (args : Array Value) (h : AH) : sF20 inv k args h = eFun env k inv 20 args h := by
  unfold sF20
  split
  · exact F20_eq.symm
  · rfl
noncomputable def sF21 (inv : Inv) (k : Nat) (args : Array Value) (h : AH) : Option (Value × AH) := match args with
  | ⟨[x0]⟩ => F21 inv k x0 h
  | args => eFun env k inv 21 args h
theorem sF21_eq (inv : Inv) (k : Nat) (args : Array Value) (h : AH) : sF21 inv k args h = eFun env k inv 21 args h := by
  unfold sF21
  split
  · exact F21_eq.symm
  · rfl
noncomputable def sF22 (inv : Inv) (k : Nat) (args : Array Value) (h : AH) : Option (Value × AH) := match args with
  | ⟨[x0, x1]⟩ => F22 inv k x0 x1 h
  | args => eFun env k inv 22 args h
theorem sF22_eq (inv : Inv) (k : Nat) (args : Array Value) (h : AH) : sF22 inv k args h = eFun env k inv 22 args h := by
  unfold sF22
  split
  · exact F22_eq.symm
  · rfl
noncomputable def sF28 (inv : Inv) (k : Nat) (args : Array Value) (h : AH) : Option (Value × AH) := match args with
  | ⟨[x0]⟩ => F28 inv k x0 h
  | args => eFun env k inv 28 args h
theorem sF28_eq (inv : Inv) (k : Nat) (args : Array Value) (h : AH) : sF28 inv k args h = eFun env k inv 28 args h := by
  unfold sF28
  split
  · exact F28_eq.symm
  · rfl
noncomputable def sF29 (inv : Inv) (k : Nat) (args : Array Value) (h : AH) : Option (Value × AH) := match args with
  | ⟨[x0]⟩ => F29 inv k x0 h
  | args => eFun env k inv 29 args h
theorem sF29_eq (inv : Inv) (k : Nat) (args : Array Value) (h : AH) : sF29 inv k args h = eFun env k inv 29 args h := by
  unfold sF29
  split
  · exact F29_eq.symm
  · rfl
noncomputable def sF30 (inv : Inv) (k : Nat) (args : Array Value) (h : AH) : Option (Value × AH) := match args with
  | ⟨[x0]⟩ => F30 inv k x0 h
  | args => eFun env k inv 30 args h
theorem sF30_eq (inv : Inv) (k : Nat) (args : Array Value) (h : AH) : sF30 inv k args h = eFun env k inv 30 args h := by
  unfold sF30
  split
  · exact F30_eq.symm
  · rfl
noncomputable def sF31 (inv : Inv) (k : Nat) (args : Array Value) (h : AH) : Option (Value × AH) := match args with
  | ⟨[x0]⟩ => F31 inv k x0 h
  | args => eFun env k inv 31 args h
theorem sF31_eq (inv : Inv) (k : Nat) (args : Array Value) (h : AH) : sF31 inv k args h = eFun env k inv 31 args h := by
  unfold sF31
  split
  · exact F31_eq.symm
  · rfl
noncomputable def sF36 (inv : Inv) (k : Nat) (args : Array Value) (h : AH) : Option (Value × AH) := match args with
  | ⟨[x0]⟩ => F36 inv k x0 h
  | args => eFun env k inv 36 args h
theorem sF36_eq (inv : Inv) (k : Nat) (args : Array Value) (h : AH) : sF36 inv k args h = eFun env k inv 36 args h := by
  unfold sF36
  split
  · exact F36_eq.symm
  · rfl
noncomputable def sF39 (inv : Inv) (k : Nat) (args : Array Value) (h : AH) : Option (Value × AH) := match args with
  | ⟨[x0, x1]⟩ => F39 inv k x0 x1 h
  | args => eFun env k inv 39 args h
theorem sF39_eq (inv : Inv) (k : Nat) (args : Array Value) (h : AH) : sF39 inv k args h = eFun env k inv 39 args h := by
  unfold sF39
  split
  · exact F39_eq.symm
  · rfl
noncomputable def sF44 (inv : Inv) (k : Nat) (args : Array Value) (h : AH) : Option (Value × AH) := match args with
  | ⟨[]⟩ => F44 inv k  h
  | args => eFun env k inv 44 args h
theorem sF44_eq (inv : Inv) (k : Nat) (args : Array Value) (h : AH) : sF44 inv k args h = eFun env k inv 44 args h := by
  unfold sF44
  split
  · exact F44_eq.symm
  · rfl
noncomputable def sF45 (inv : Inv) (k : Nat) (args : Array Value) (h : AH) : Option (Value × AH) := match args with
  | ⟨[]⟩ => F45 inv k  h
  | args => eFun env k inv 45 args h
theorem sF45_eq (inv : Inv) (k : Nat) (args : Array Value) (h : AH) : sF45 inv k args h = eFun env k inv 45 args h := by
  unfold sF45
  split
  · exact F45_eq.symm
  · rfl
noncomputable def sF46 (inv : Inv) (k : Nat) (args : Array Value) (h : AH) : Option (Value × AH) := match args with
  | ⟨[]⟩ => F46 inv k  h
  | args => eFun env k inv 46 args h
theorem sF46_eq (inv : Inv) (k : Nat) (args : Array Value) (h : AH) : sF46 inv k args h = eFun env k inv 46 args h := by
  unfold sF46
  split
  · exact F46_eq.symm
  · rfl
noncomputable def sF47 (inv : Inv) (k : Nat) (args : Array Value) (h : AH) : Option (Value × AH) := match args with
  | ⟨[x0, x1]⟩ => F47 inv k x0 x1 h
  | args => eFun env k inv 47 args h
theorem sF47_eq (inv : Inv) (k : Nat) (args : Array Value) (h : AH) : sF47 inv k args h = eFun env k inv 47 args h := by
  unfold sF47
  split
  · exact F47_eq.symm
  · rfl
noncomputable def sF48 (inv : Inv) (k : Nat) (args : Array Value) (h : AH) : Option (Value × AH) := match args with
  | ⟨[x0]⟩ => F48 inv k x0 h
  | args => eFun env k inv 48 args h
theorem sF48_eq (inv : Inv) (k : Nat) (args : Array Value) (h : AH) : sF48 inv k args h = eFun env k inv 48 args h := by
  unfold sF48
  split
  · exact F48_eq.symm
  · rfl
noncomputable def sF49 (inv : Inv) (k : Nat) (args : Array Value) (h : AH) : Option (Value × AH) := match args with
  | ⟨[x0, x1]⟩ => F49 inv k x0 x1 h
  | args => eFun env k inv 49 args h
theorem sF49_eq (inv : Inv) (k : Nat) (args : Array Value) (h : AH) : sF49 inv k args h = eFun env k inv 49 args h := by
  unfold sF49
  split
  · exact F49_eq.symm
  · rfl
noncomputable def sF50 (inv : Inv) (k : Nat) (args : Array Value) (h : AH) : Option (Value × AH) := match args with
  | ⟨[x0]⟩ => F50 inv k x0 h
  | args => eFun env k inv 50 args h
theorem sF50_eq (inv : Inv) (k : Nat) (args : Array Value) (h : AH) : sF50 inv k args h = eFun env k inv 50 args h := by
  unfold sF50
  split
  · exact F50_eq.symm
  · rfl
noncomputable def sF51 (inv : Inv) (k : Nat) (args : Array Value) (h : AH) : Option (Value × AH) := match args with
  | ⟨[x0, x1]⟩ => F51 inv k x0 x1 h
  | args => eFun env k inv 51 args h
theorem sF51_eq (inv : Inv) (k : Nat) (args : Array Value) (h : AH) : sF51 inv k args h = eFun env k inv 51 args h := by
  unfold sF51
  split
  · exact F51_eq.symm
  · rfl
noncomputable def sF52 (inv : Inv) (k : Nat) (args : Array Value) (h : AH) : Option (Value × AH) := match args with
  | ⟨[x0]⟩ => F52 inv k x0 h
  | args => eFun env k inv 52 args h
theorem sF52_eq (inv : Inv) (k : Nat) (args : Array Value) (h : AH) : sF52 inv k args h = eFun env k inv 52 args h := by
  unfold sF52
  split
  · exact F52_eq.symm
  · rfl
noncomputable def sF56 (inv : Inv) (k : Nat) (args : Array Value) (h : AH) : Option (Value × AH) := match args with
  | ⟨[x0]⟩ => F56 inv k x0 h
  | args => eFun env k inv 56 args h
theorem sF56_eq (inv : Inv) (k : Nat) (args : Array Value) (h : AH) : sF56 inv k args h = eFun env k inv 56 args h := by
  unfold sF56
  split
  · exact F56_eq.symm
  · rfl
noncomputable def sF57 (inv : Inv) (k : Nat) (args : Array Value) (h : AH) : Option (Value × AH) := match args with
  | ⟨[x0]⟩ => F57 inv k x0 h
  | args => eFun env k inv 57 args h
theorem sF57_eq (inv : Inv) (k : Nat) (args : Array Value) (h : AH) : sF57 inv k args h = eFun env k inv 57 args h := by
  unfold sF57
  split
  · exact F57_eq.symm
  · rfl
noncomputable def sF58 (inv : Inv) (k : Nat) (args : Array Value) (h : AH) : Option (Value × AH) := match args with
  | ⟨[x0]⟩ => F58 inv k x0 h
  | args => eFun env k inv 58 args h
theorem sF58_eq (inv : Inv) (k : Nat) (args : Array Value) (h : AH) : sF58 inv k args h = eFun env k inv 58 args h := by
  unfold sF58
  split
  · exact F58_eq.symm
  · rfl
noncomputable def sF59 (inv : Inv) (k : Nat) (args : Array Value) (h : AH) : Option (Value × AH) := match args with
  | ⟨[x0, x1]⟩ => F59 inv k x0 x1 h
  | args => eFun env k inv 59 args h
theorem sF59_eq (inv : Inv) (k : Nat) (args : Array Value) (h : AH) : sF59 inv k args h = eFun env k inv 59 args h := by
  unfold sF59
  split
  · exact F59_eq.symm
  · rfl
noncomputable def sF60 (inv : Inv) (k : Nat) (args : Array Value) (h : AH) : Option (Value × AH) := match args with
  | ⟨[x0, x1]⟩ => F60 inv k x0 x1 h
  | args => eFun env k inv 60 args h
theorem sF60_eq (inv : Inv) (k : Nat) (args : Array Value) (h : AH) : sF60 inv k args h = eFun env k inv 60 args h := by
  unfold sF60
  split
  · exact F60_eq.symm
  · rfl
noncomputable def sF61 (inv : Inv) (k : Nat) (args : Array Value) (h : AH) : Option (Value × AH) := match args with
  | ⟨[x0]⟩ => F61 inv k x0 h
  | args => eFun env k inv 61 args h
theorem sF61_eq (inv : Inv) (k : Nat) (args : Array Value) (h : AH) : sF61 inv k args h = eFun env k inv 61 args h := by
  unfold sF61
  split
  · exact F61_eq.symm
  · rfl
noncomputable def sF72 (inv : Inv) (k : Nat) (args : Array Value) (h : AH) : Option (Value × AH) := match args with
  | ⟨[x0]⟩ => F72 inv k x0 h
  | args => eFun env k inv 72 args h
theorem sF72_eq (inv : Inv) (k : Nat) (args : Array Value) (h : AH) : sF72 inv k args h = eFun env k inv 72 args h := by
  unfold sF72
  split
  · exact F72_eq.symm
  · rfl
noncomputable def sF73 (inv : Inv) (k : Nat) (args : Array Value) (h : AH) : Option (Value × AH) := match args with
  | ⟨[x0]⟩ => F73 inv k x0 h
  | args => eFun env k inv 73 args h
theorem sF73_eq (inv : Inv) (k : Nat) (args : Array Value) (h : AH) : sF73 inv k args h = eFun env k inv 73 args h := by
  unfold sF73
  split
  · exact F73_eq.symm
  · rfl
noncomputable def sF74 (inv : Inv) (k : Nat) (args : Array Value) (h : AH) : Option (Value × AH) := match args with
  | ⟨[x0, x1]⟩ => F74 inv k x0 x1 h
  | args => eFun env k inv 74 args h
theorem sF74_eq (inv : Inv) (k : Nat) (args : Array Value) (h : AH) : sF74 inv k args h = eFun env k inv 74 args h := by
  unfold sF74
  split
  · exact F74_eq.symm
  · rfl
noncomputable def sF75 (inv : Inv) (k : Nat) (args : Array Value) (h : AH) : Option (Value × AH) := match args with
  | ⟨[x0, x1, x2]⟩ => F75 inv k x0 x1 x2 h
  | args => eFun env k inv 75 args h
theorem sF75_eq (inv : Inv) (k : Nat) (args : Array Value) (h : AH) : sF75 inv k args h = eFun env k inv 75 args h := by
  unfold sF75
  split
  · exact F75_eq.symm
  · rfl
noncomputable def sF76 (inv : Inv) (k : Nat) (args : Array Value) (h : AH) : Option (Value × AH) := match args with
  | ⟨[x0]⟩ => F76 inv k x0 h
  | args => eFun env k inv 76 args h
theorem sF76_eq (inv : Inv) (k : Nat) (args : Array Value) (h : AH) : sF76 inv k args h = eFun env k inv 76 args h := by
  unfold sF76
  split
  · exact F76_eq.symm
  · rfl
noncomputable def sF77 (inv : Inv) (k : Nat) (args : Array Value) (h : AH) : Option (Value × AH) := match args with
  | ⟨[x0, x1]⟩ => F77 inv k x0 x1 h
  | args => eFun env k inv 77 args h
theorem sF77_eq (inv : Inv) (k : Nat) (args : Array Value) (h : AH) : sF77 inv k args h = eFun env k inv 77 args h := by
  unfold sF77
  split
  · exact F77_eq.symm
  · rfl
noncomputable def sF78 (inv : Inv) (k : Nat) (args : Array Value) (h : AH) : Option (Value × AH) := match args with
  | ⟨[x0]⟩ => F78 inv k x0 h
  | args => eFun env k inv 78 args h
theorem sF78_eq (inv : Inv) (k : Nat) (args : Array Value) (h : AH) : sF78 inv k args h = eFun env k inv 78 args h := by
  unfold sF78
  split
  · exact F78_eq.symm
  · rfl
noncomputable def sF79 (inv : Inv) (k : Nat) (args : Array Value) (h : AH) : Option (Value × AH) := match args with
  | ⟨[x0, x1]⟩ => F79 inv k x0 x1 h
  | args => eFun env k inv 79 args h
theorem sF79_eq (inv : Inv) (k : Nat) (args : Array Value) (h : AH) : sF79 inv k args h = eFun env k inv 79 args h := by
  unfold sF79
  split
  · exact F79_eq.symm
  · rfl
noncomputable def sF80 (inv : Inv) (k : Nat) (args : Array Value) (h : AH) : Option (Value × AH) := match args with
  | ⟨[x0]⟩ => F80 inv k x0 h
  | args => eFun env k inv 80 args h
theorem sF80_eq (inv : Inv) (k : Nat) (args : Array Value) (h : AH) : sF80 inv k args h = eFun env k inv 80 args h := by
  unfold sF80
  split
  · exact F80_eq.symm
  · rfl
noncomputable def sF81 (inv : Inv) (k : Nat) (args : Array Value) (h : AH) : Option (Value × AH) := match args with
  | ⟨[x0]⟩ => F81 inv k x0 h
  | args => eFun env k inv 81 args h
theorem sF81_eq (inv : Inv) (k : Nat) (args : Array Value) (h : AH) : sF81 inv k args h = eFun env k inv 81 args h := by
  unfold sF81
  split
  · exact F81_eq.symm
  · rfl
noncomputable def sF82 (inv : Inv) (k : Nat) (args : Array Value) (h : AH) : Option (Value × AH) := match args with
  | ⟨[x0]⟩ => F82 inv k x0 h
  | args => eFun env k inv 82 args h
theorem sF82_eq (inv : Inv) (k : Nat) (args : Array Value) (h : AH) : sF82 inv k args h = eFun env k inv 82 args h := by
  unfold sF82
  split
  · exact F82_eq.symm
  · rfl
noncomputable def sF83 (inv : Inv) (k : Nat) (args : Array Value) (h : AH) : Option (Value × AH) := match args with
  | ⟨[x0, x1]⟩ => F83 inv k x0 x1 h
  | args => eFun env k inv 83 args h
theorem sF83_eq (inv : Inv) (k : Nat) (args : Array Value) (h : AH) : sF83 inv k args h = eFun env k inv 83 args h := by
  unfold sF83
  split
  · exact F83_eq.symm
  · rfl
noncomputable def sF84 (inv : Inv) (k : Nat) (args : Array Value) (h : AH) : Option (Value × AH) := match args with
  | ⟨[x0]⟩ => F84 inv k x0 h
  | args => eFun env k inv 84 args h
theorem sF84_eq (inv : Inv) (k : Nat) (args : Array Value) (h : AH) : sF84 inv k args h = eFun env k inv 84 args h := by
  unfold sF84
  split
  · exact F84_eq.symm
  · rfl
noncomputable def sF85 (inv : Inv) (k : Nat) (args : Array Value) (h : AH) : Option (Value × AH) := match args with
  | ⟨[x0]⟩ => F85 inv k x0 h
  | args => eFun env k inv 85 args h
theorem sF85_eq (inv : Inv) (k : Nat) (args : Array Value) (h : AH) : sF85 inv k args h = eFun env k inv 85 args h := by
  unfold sF85
  split
  · exact F85_eq.symm
  · rfl
noncomputable def sF86 (inv : Inv) (k : Nat) (args : Array Value) (h : AH) : Option (Value × AH) := match args with
  | ⟨[x0, x1]⟩ => F86 inv k x0 x1 h
  | args => eFun env k inv 86 args h
theorem sF86_eq (inv : Inv) (k : Nat) (args : Array Value) (h : AH) : sF86 inv k args h = eFun env k inv 86 args h := by
  unfold sF86
  split
  · exact F86_eq.symm
  · rfl
noncomputable def sF87 (inv : Inv) (k : Nat) (args : Array Value) (h : AH) : Option (Value × AH) := match args with
  | ⟨[x0, x1, x2]⟩ => F87 inv k x0 x1 x2 h
  | args => eFun env k inv 87 args h
theorem sF87_eq (inv : Inv) (k : Nat) (args : Array Value) (h : AH) : sF87 inv k args h = eFun env k inv 87 args h := by
  unfold sF87
  split
  · exact F87_eq.symm
  · rfl
noncomputable def sF88 (inv : Inv) (k : Nat) (args : Array Value) (h : AH) : Option (Value × AH) := match args with
  | ⟨[x0]⟩ => F88 inv k x0 h
  | args => eFun env k inv 88 args h
theorem sF88_eq (inv : Inv) (k : Nat) (args : Array Value) (h : AH) : sF88 inv k args h = eFun env k inv 88 args h := by
  unfold sF88
  split
  · exact F88_eq.symm
  · rfl
noncomputable def sF89 (inv : Inv) (k : Nat) (args : Array Value) (h : AH) : Option (Value × AH) := match args with
  | ⟨[x0]⟩ => F89 inv k x0 h
  | args => eFun env k inv 89 args h
theorem sF89_eq (inv : Inv) (k : Nat) (args : Array Value) (h : AH) : sF89 inv k args h = eFun env k inv 89 args h := by
  unfold sF89
  split
  · exact F89_eq.symm
  · rfl
noncomputable def sF90 (inv : Inv) (k : Nat) (args : Array Value) (h : AH) : Option (Value × AH) := match args with
  | ⟨[x0, x1]⟩ => F90 inv k x0 x1 h
  | args => eFun env k inv 90 args h
theorem sF90_eq (inv : Inv) (k : Nat) (args : Array Value) (h : AH) : sF90 inv k args h = eFun env k inv 90 args h := by
  unfold sF90
  split
  · exact F90_eq.symm
  · rfl
noncomputable def sF91 (inv : Inv) (k : Nat) (args : Array Value) (h : AH) : Option (Value × AH) := match args with
  | ⟨[x0]⟩ => F91 inv k x0 h
  | args => eFun env k inv 91 args h
theorem sF91_eq (inv : Inv) (k : Nat) (args : Array Value) (h : AH) : sF91 inv k args h = eFun env k inv 91 args h := by
  unfold sF91
  split
  · exact F91_eq.symm
  · rfl
noncomputable def sF92 (inv : Inv) (k : Nat) (args : Array Value) (h : AH) : Option (Value × AH) := match args with
  | ⟨[x0]⟩ => F92 inv k x0 h
  | args => eFun env k inv 92 args h
theorem sF92_eq (inv : Inv) (k : Nat) (args : Array Value) (h : AH) : sF92 inv k args h = eFun env k inv 92 args h := by
  unfold sF92
  split
  · exact F92_eq.symm
  · rfl
noncomputable def sF93 (inv : Inv) (k : Nat) (args : Array Value) (h : AH) : Option (Value × AH) := match args with
  | ⟨[x0]⟩ => F93 inv k x0 h
  | args => eFun env k inv 93 args h
theorem sF93_eq (inv : Inv) (k : Nat) (args : Array Value) (h : AH) : sF93 inv k args h = eFun env k inv 93 args h := by
  unfold sF93
  split
  · exact F93_eq.symm
  · rfl
noncomputable def sF94 (inv : Inv) (k : Nat) (args : Array Value) (h : AH) : Option (Value × AH) := match args with
  | ⟨[x0, x1]⟩ => F94 inv k x0 x1 h
  | args => eFun env k inv 94 args h
theorem sF94_eq (inv : Inv) (k : Nat) (args : Array Value) (h : AH) : sF94 inv k args h = eFun env k inv 94 args h := by
  unfold sF94
  split
  · exact F94_eq.symm
  · rfl
noncomputable def sF95 (inv : Inv) (k : Nat) (args : Array Value) (h : AH) : Option (Value × AH) := match args with
  | ⟨[x0]⟩ => F95 inv k x0 h
  | args => eFun env k inv 95 args h
theorem sF95_eq (inv : Inv) (k : Nat) (args : Array Value) (h : AH) : sF95 inv k args h = eFun env k inv 95 args h := by
  unfold sF95
  split
  · exact F95_eq.symm
  · rfl
noncomputable def sF96 (inv : Inv) (k : Nat) (args : Array Value) (h : AH) : Option (Value × AH) := match args with
  | ⟨[x0]⟩ => F96 inv k x0 h
  | args => eFun env k inv 96 args h
theorem sF96_eq (inv : Inv) (k : Nat) (args : Array Value) (h : AH) : sF96 inv k args h = eFun env k inv 96 args h := by
  unfold sF96
  split
  · exact F96_eq.symm
  · rfl
noncomputable def sF97 (inv : Inv) (k : Nat) (args : Array Value) (h : AH) : Option (Value × AH) := match args with
  | ⟨[x0, x1]⟩ => F97 inv k x0 x1 h
  | args => eFun env k inv 97 args h
theorem sF97_eq (inv : Inv) (k : Nat) (args : Array Value) (h : AH) : sF97 inv k args h = eFun env k inv 97 args h := by
  unfold sF97
  split
  · exact F97_eq.symm
  · rfl
noncomputable def sF98 (inv : Inv) (k : Nat) (args : Array Value) (h : AH) : Option (Value × AH) := match args with
  | ⟨[x0]⟩ => F98 inv k x0 h
  | args => eFun env k inv 98 args h
theorem sF98_eq (inv : Inv) (k : Nat) (args : Array Value) (h : AH) : sF98 inv k args h = eFun env k inv 98 args h := by
  unfold sF98
  split
  · exact F98_eq.symm
  · rfl
noncomputable def sF99 (inv : Inv) (k : Nat) (args : Array Value) (h : AH) : Option (Value × AH) := match args with
  | ⟨[x0, x1]⟩ => F99 inv k x0 x1 h
  | args => eFun env k inv 99 args h
theorem sF99_eq (inv : Inv) (k : Nat) (args : Array Value) (h : AH) : sF99 inv k args h = eFun env k inv 99 args h := by
  unfold sF99
  split
  · exact F99_eq.symm
  · rfl
noncomputable def sF100 (inv : Inv) (k : Nat) (args : Array Value) (h : AH) : Option (Value × AH) := match args with
  | ⟨[x0, x1, x2, x3]⟩ => F100 inv k x0 x1 x2 x3 h
  | args => eFun env k inv 100 args h
theorem sF100_eq (inv : Inv) (k : Nat) (args : Array Value) (h : AH) : sF100 inv k args h = eFun env k inv 100 args h := by
  unfold sF100
  split
  · exact F100_eq.symm
  · rfl
noncomputable def sF101 (inv : Inv) (k : Nat) (args : Array Value) (h : AH) : Option (Value × AH) := match args with
  | ⟨[x0, x1]⟩ => F101 inv k x0 x1 h
  | args => eFun env k inv 101 args h
theorem sF101_eq (inv : Inv) (k : Nat) (args : Array Value) (h : AH) : sF101 inv k args h = eFun env k inv 101 args h := by
  unfold sF101
  split
  · exact F101_eq.symm
  · rfl
noncomputable def sF103 (inv : Inv) (k : Nat) (args : Array Value) (h : AH) : Option (Value × AH) := match args with
  | ⟨[x0, x1]⟩ => F103 inv k x0 x1 h
  | args => eFun env k inv 103 args h
theorem sF103_eq (inv : Inv) (k : Nat) (args : Array Value) (h : AH) : sF103 inv k args h = eFun env k inv 103 args h := by
  unfold sF103
  split
  · exact F103_eq.symm
  · rfl
noncomputable def sF104 (inv : Inv) (k : Nat) (args : Array Value) (h : AH) : Option (Value × AH) := match args with
  | ⟨[x0, x1]⟩ => F104 inv k x0 x1 h
  | args => eFun env k inv 104 args h
theorem sF104_eq (inv : Inv) (k : Nat) (args : Array Value) (h : AH) : sF104 inv k args h = eFun env k inv 104 args h := by
  unfold sF104
  split
  · exact F104_eq.symm
  · rfl
noncomputable def sF105 (inv : Inv) (k : Nat) (args : Array Value) (h : AH) : Option (Value × AH) := match args with
  | ⟨[x0]⟩ => F105 inv k x0 h
  | args => eFun env k inv 105 args h
theorem sF105_eq (inv : Inv) (k : Nat) (args : Array Value) (h : AH) : sF105 inv k args h = eFun env k inv 105 args h := by
  unfold sF105
  split
  · exact F105_eq.symm
  · rfl
noncomputable def sF106 (inv : Inv) (k : Nat) (args : Array Value) (h : AH) : Option (Value × AH) := match args with
  | ⟨[x0, x1]⟩ => F106 inv k x0 x1 h
  | args => eFun env k inv 106 args h
theorem sF106_eq (inv : Inv) (k : Nat) (args : Array Value) (h : AH) : sF106 inv k args h = eFun env k inv 106 args h := by
  unfold sF106
  split
  · exact F106_eq.symm
  · rfl
noncomputable def sF120 (inv : Inv) (k : Nat) (args : Array Value) (h : AH) : Option (Value × AH) := match args with
  | ⟨[x0]⟩ => F120 inv k x0 h
  | args => eFun env k inv 120 args h
theorem sF120_eq (inv : Inv) (k : Nat) (args : Array Value) (h : AH) : sF120 inv k args h = eFun env k inv 120 args h := by
  unfold sF120
  split
  · exact F120_eq.symm
  · rfl
noncomputable def sF121 (inv : Inv) (k : Nat) (args : Array Value) (h : AH) : Option (Value × AH) := match args with
  | ⟨[]⟩ => F121 inv k  h
  | args => eFun env k inv 121 args h
theorem sF121_eq (inv : Inv) (k : Nat) (args : Array Value) (h : AH) : sF121 inv k args h = eFun env k inv 121 args h := by
  unfold sF121
  split
  · exact F121_eq.symm
  · rfl
noncomputable def sF122 (inv : Inv) (k : Nat) (args : Array Value) (h : AH) : Option (Value × AH) := match args with
  | ⟨[x0, x1]⟩ => F122 inv k x0 x1 h
  | args => eFun env k inv 122 args h
theorem sF122_eq (inv : Inv) (k : Nat) (args : Array Value) (h : AH) : sF122 inv k args h = eFun env k inv 122 args h := by
  unfold sF122
  split
  · exact F122_eq.symm
  · rfl
noncomputable def sF123 (inv : Inv) (k : Nat) (args : Array Value) (h : AH) : Option (Value × AH) := match args with
  | ⟨[x0, x1]⟩ => F123 inv k x0 x1 h
  | args => eFun env k inv 123 args h
theorem sF123_eq (inv : Inv) (k : Nat) (args : Array Value) (h : AH) : sF123 inv k args h = eFun env k inv 123 args h := by
  unfold sF123
  split
  · exact F123_eq.symm
  · rfl
noncomputable def sF124 (inv : Inv) (k : Nat) (args : Array Value) (h : AH) : Option (Value × AH) := match args with
  | ⟨[x0, x1]⟩ => F124 inv k x0 x1 h
  | args => eFun env k inv 124 args h
theorem sF124_eq (inv : Inv) (k : Nat) (args : Array Value) (h : AH) : sF124 inv k args h = eFun env k inv 124 args h := by
  unfold sF124
  split
  · exact F124_eq.symm
  · rfl
noncomputable def sF125 (inv : Inv) (k : Nat) (args : Array Value) (h : AH) : Option (Value × AH) := match args with
  | ⟨[x0, x1]⟩ => F125 inv k x0 x1 h
  | args => eFun env k inv 125 args h
theorem sF125_eq (inv : Inv) (k : Nat) (args : Array Value) (h : AH) : sF125 inv k args h = eFun env k inv 125 args h := by
  unfold sF125
  split
  · exact F125_eq.symm
  · rfl
noncomputable def sF126 (inv : Inv) (k : Nat) (args : Array Value) (h : AH) : Option (Value × AH) := match args with
  | ⟨[x0, x1]⟩ => F126 inv k x0 x1 h
  | args => eFun env k inv 126 args h
theorem sF126_eq (inv : Inv) (k : Nat) (args : Array Value) (h : AH) : sF126 inv k args h = eFun env k inv 126 args h := by
  unfold sF126
  split
  · exact F126_eq.symm
  · rfl
noncomputable def sF127 (inv : Inv) (k : Nat) (args : Array Value) (h : AH) : Option (Value × AH) := match args with
  | ⟨[x0, x1, x2]⟩ => F127 inv k x0 x1 x2 h
  | args => eFun env k inv 127 args h
theorem sF127_eq (inv : Inv) (k : Nat) (args : Array Value) (h : AH) : sF127 inv k args h = eFun env k inv 127 args h := by
  unfold sF127
  split
  · exact F127_eq.symm
  · rfl
noncomputable def sF128 (inv : Inv) (k : Nat) (args : Array Value) (h : AH) : Option (Value × AH) := match args with
  | ⟨[x0, x1, x2]⟩ => F128 inv k x0 x1 x2 h
  | args => eFun env k inv 128 args h
theorem sF128_eq (inv : Inv) (k : Nat) (args : Array Value) (h : AH) : sF128 inv k args h = eFun env k inv 128 args h := by
  unfold sF128
  split
  · exact F128_eq.symm
  · rfl
noncomputable def sF129 (inv : Inv) (k : Nat) (args : Array Value) (h : AH) : Option (Value × AH) := match args with
  | ⟨[x0]⟩ => F129 inv k x0 h
  | args => eFun env k inv 129 args h
theorem sF129_eq (inv : Inv) (k : Nat) (args : Array Value) (h : AH) : sF129 inv k args h = eFun env k inv 129 args h := by
  unfold sF129
  split
  · exact F129_eq.symm
  · rfl
noncomputable def sF130 (inv : Inv) (k : Nat) (args : Array Value) (h : AH) : Option (Value × AH) := match args with
  | ⟨[x0]⟩ => F130 inv k x0 h
  | args => eFun env k inv 130 args h
theorem sF130_eq (inv : Inv) (k : Nat) (args : Array Value) (h : AH) : sF130 inv k args h = eFun env k inv 130 args h := by
  unfold sF130
  split
  · exact F130_eq.symm
  · rfl
noncomputable def sF131 (inv : Inv) (k : Nat) (args : Array Value) (h : AH) : Option (Value × AH) := match args with
  | ⟨[x0]⟩ => F131 inv k x0 h
  | args => eFun env k inv 131 args h
theorem sF131_eq (inv : Inv) (k : Nat) (args : Array Value) (h : AH) : sF131 inv k args h = eFun env k inv 131 args h := by
  unfold sF131
  split
  · exact F131_eq.symm
  · rfl
noncomputable def sF132 (inv : Inv) (k : Nat) (args : Array Value) (h : AH) : Option (Value × AH) := match args with
  | ⟨[x0, x1]⟩ => F132 inv k x0 x1 h
  | args => eFun env k inv 132 args h
theorem sF132_eq (inv : Inv) (k : Nat) (args : Array Value) (h : AH) : sF132 inv k args h = eFun env k inv 132 args h := by
  unfold sF132
  split
  · exact F132_eq.symm
  · rfl
noncomputable def sF133 (inv : Inv) (k : Nat) (args : Array Value) (h : AH) : Option (Value × AH) := match args with
  | ⟨[x0, x1]⟩ => F133 inv k x0 x1 h
  | args => eFun env k inv 133 args h
theorem sF133_eq (inv : Inv) (k : Nat) (args : Array Value) (h : AH) : sF133 inv k args h = eFun env k inv 133 args h := by
  unfold sF133
  split
  · exact F133_eq.symm
  · rfl
noncomputable def sF134 (inv : Inv) (k : Nat) (args : Array Value) (h : AH) : Option (Value × AH) := match args with
  | ⟨[x0]⟩ => F134 inv k x0 h
  | args => eFun env k inv 134 args h
theorem sF134_eq (inv : Inv) (k : Nat) (args : Array Value) (h : AH) : sF134 inv k args h = eFun env k inv 134 args h := by
  unfold sF134
  split
  · exact F134_eq.symm
  · rfl
noncomputable def sF135 (inv : Inv) (k : Nat) (args : Array Value) (h : AH) : Option (Value × AH) := match args with
  | ⟨[x0]⟩ => F135 inv k x0 h
  | args => eFun env k inv 135 args h
theorem sF135_eq (inv : Inv) (k : Nat) (args : Array Value) (h : AH) : sF135 inv k args h = eFun env k inv 135 args h := by
  unfold sF135
  split
  · exact F135_eq.symm
  · rfl
noncomputable def sF136 (inv : Inv) (k : Nat) (args : Array Value) (h : AH) : Option (Value × AH) := match args with
  | ⟨[x0, x1]⟩ => F136 inv k x0 x1 h
  | args => eFun env k inv 136 args h
theorem sF136_eq (inv : Inv) (k : Nat) (args : Array Value) (h : AH) : sF136 inv k args h = eFun env k inv 136 args h := by
  unfold sF136
  split
  · exact F136_eq.symm
  · rfl
noncomputable def sF137 (inv : Inv) (k : Nat) (args : Array Value) (h : AH) : Option (Value × AH) := match args with
  | ⟨[x0, x1]⟩ => F137 inv k x0 x1 h
  | args => eFun env k inv 137 args h
theorem sF137_eq (inv : Inv) (k : Nat) (args : Array Value) (h : AH) : sF137 inv k args h = eFun env k inv 137 args h := by
  unfold sF137
  split
  · exact F137_eq.symm
  · rfl
noncomputable def sF138 (inv : Inv) (k : Nat) (args : Array Value) (h : AH) : Option (Value × AH) := match args with
  | ⟨[x0, x1]⟩ => F138 inv k x0 x1 h
  | args => eFun env k inv 138 args h
theorem sF138_eq (inv : Inv) (k : Nat) (args : Array Value) (h : AH) : sF138 inv k args h = eFun env k inv 138 args h := by
  unfold sF138
  split
  · exact F138_eq.symm
  · rfl
noncomputable def sF143 (inv : Inv) (k : Nat) (args : Array Value) (h : AH) : Option (Value × AH) := match args with
  | ⟨[x0]⟩ => F143 inv k x0 h
  | args => eFun env k inv 143 args h
theorem sF143_eq (inv : Inv) (k : Nat) (args : Array Value) (h : AH) : sF143 inv k args h = eFun env k inv 143 args h := by
  unfold sF143
  split
  · exact F143_eq.symm
  · rfl
noncomputable def sF144 (inv : Inv) (k : Nat) (args : Array Value) (h : AH) : Option (Value × AH) := match args with
  | ⟨[x0]⟩ => F144 inv k x0 h
  | args => eFun env k inv 144 args h
theorem sF144_eq (inv : Inv) (k : Nat) (args : Array Value) (h : AH) : sF144 inv k args h = eFun env k inv 144 args h := by
  unfold sF144
  split
  · exact F144_eq.symm
  · rfl
noncomputable def sF145 (inv : Inv) (k : Nat) (args : Array Value) (h : AH) : Option (Value × AH) := match args with
  | ⟨[x0, x1]⟩ => F145 inv k x0 x1 h
  | args => eFun env k inv 145 args h
theorem sF145_eq (inv : Inv) (k : Nat) (args : Array Value) (h : AH) : sF145 inv k args h = eFun env k inv 145 args h := by
  unfold sF145
  split
  · exact F145_eq.symm
  · rfl
noncomputable def sF146 (inv : Inv) (k : Nat) (args : Array Value) (h : AH) : Option (Value × AH) := match args with
  | ⟨[x0]⟩ => F146 inv k x0 h
  | args => eFun env k inv 146 args h
theorem sF146_eq (inv : Inv) (k : Nat) (args : Array Value) (h : AH) : sF146 inv k args h = eFun env k inv 146 args h := by
  unfold sF146
  split
  · exact F146_eq.symm
  · rfl
noncomputable def sF147 (inv : Inv) (k : Nat) (args : Array Value) (h : AH) : Option (Value × AH) := match args with
  | ⟨[x0, x1]⟩ => F147 inv k x0 x1 h
  | args => eFun env k inv 147 args h
theorem sF147_eq (inv : Inv) (k : Nat) (args : Array Value) (h : AH) : sF147 inv k args h = eFun env k inv 147 args h := by
  unfold sF147
  split
  · exact F147_eq.symm
  · rfl
noncomputable def sF148 (inv : Inv) (k : Nat) (args : Array Value) (h : AH) : Option (Value × AH) := match args with
  | ⟨[x0]⟩ => F148 inv k x0 h
  | args => eFun env k inv 148 args h
theorem sF148_eq (inv : Inv) (k : Nat) (args : Array Value) (h : AH) : sF148 inv k args h = eFun env k inv 148 args h := by
  unfold sF148
  split
  · exact F148_eq.symm
  · rfl
noncomputable def sF149 (inv : Inv) (k : Nat) (args : Array Value) (h : AH) : Option (Value × AH) := match args with
  | ⟨[x0, x1]⟩ => F149 inv k x0 x1 h
  | args => eFun env k inv 149 args h
theorem sF149_eq (inv : Inv) (k : Nat) (args : Array Value) (h : AH) : sF149 inv k args h = eFun env k inv 149 args h := by
  unfold sF149
  split
  · exact F149_eq.symm
  · rfl
noncomputable def sF150 (inv : Inv) (k : Nat) (args : Array Value) (h : AH) : Option (Value × AH) := match args with
  | ⟨[x0]⟩ => F150 inv k x0 h
  | args => eFun env k inv 150 args h
theorem sF150_eq (inv : Inv) (k : Nat) (args : Array Value) (h : AH) : sF150 inv k args h = eFun env k inv 150 args h := by
  unfold sF150
  split
  · exact F150_eq.symm
  · rfl
noncomputable def sF151 (inv : Inv) (k : Nat) (args : Array Value) (h : AH) : Option (Value × AH) := match args with
  | ⟨[x0, x1, x2]⟩ => F151 inv k x0 x1 x2 h
  | args => eFun env k inv 151 args h
theorem sF151_eq (inv : Inv) (k : Nat) (args : Array Value) (h : AH) : sF151 inv k args h = eFun env k inv 151 args h := by
  unfold sF151
  split
  · exact F151_eq.symm
  · rfl
noncomputable def sF152 (inv : Inv) (k : Nat) (args : Array Value) (h : AH) : Option (Value × AH) := match args with
  | ⟨[x0, x1, x2, x3]⟩ => F152 inv k x0 x1 x2 x3 h
  | args => eFun env k inv 152 args h
theorem sF152_eq (inv : Inv) (k : Nat) (args : Array Value) (h : AH) : sF152 inv k args h = eFun env k inv 152 args h := by
  unfold sF152
  split
  · exact F152_eq.symm
  · rfl
noncomputable def sF153 (inv : Inv) (k : Nat) (args : Array Value) (h : AH) : Option (Value × AH) := match args with
  | ⟨[x0, x1]⟩ => F153 inv k x0 x1 h
  | args => eFun env k inv 153 args h
theorem sF153_eq (inv : Inv) (k : Nat) (args : Array Value) (h : AH) : sF153 inv k args h = eFun env k inv 153 args h := by
  unfold sF153
  split
  · exact F153_eq.symm
  · rfl
noncomputable def sF154 (inv : Inv) (k : Nat) (args : Array Value) (h : AH) : Option (Value × AH) := match args with
  | ⟨[x0]⟩ => F154 inv k x0 h
  | args => eFun env k inv 154 args h
theorem sF154_eq (inv : Inv) (k : Nat) (args : Array Value) (h : AH) : sF154 inv k args h = eFun env k inv 154 args h := by
  unfold sF154
  split
  · exact F154_eq.symm
  · rfl
noncomputable def sF155 (inv : Inv) (k : Nat) (args : Array Value) (h : AH) : Option (Value × AH) := match args with
  | ⟨[x0]⟩ => F155 inv k x0 h
  | args => eFun env k inv 155 args h
theorem sF155_eq (inv : Inv) (k : Nat) (args : Array Value) (h : AH) : sF155 inv k args h = eFun env k inv 155 args h := by
  unfold sF155
  split
  · exact F155_eq.symm
  · rfl
noncomputable def sF156 (inv : Inv) (k : Nat) (args : Array Value) (h : AH) : Option (Value × AH) := match args with
  | ⟨[x0, x1]⟩ => F156 inv k x0 x1 h
  | args => eFun env k inv 156 args h
theorem sF156_eq (inv : Inv) (k : Nat) (args : Array Value) (h : AH) : sF156 inv k args h = eFun env k inv 156 args h := by
  unfold sF156
  split
  · exact F156_eq.symm
  · rfl
noncomputable def sF157 (inv : Inv) (k : Nat) (args : Array Value) (h : AH) : Option (Value × AH) := match args with
  | ⟨[x0]⟩ => F157 inv k x0 h
  | args => eFun env k inv 157 args h
theorem sF157_eq (inv : Inv) (k : Nat) (args : Array Value) (h : AH) : sF157 inv k args h = eFun env k inv 157 args h := by
  unfold sF157
  split
  · exact F157_eq.symm
  · rfl
noncomputable def sF158 (inv : Inv) (k : Nat) (args : Array Value) (h : AH) : Option (Value × AH) := match args with
  | ⟨[x0, x1]⟩ => F158 inv k x0 x1 h
  | args => eFun env k inv 158 args h
theorem sF158_eq (inv : Inv) (k : Nat) (args : Array Value) (h : AH) : sF158 inv k args h = eFun env k inv 158 args h := by
  unfold sF158
  split
  · exact F158_eq.symm
  · rfl
noncomputable def sF159 (inv : Inv) (k : Nat) (args : Array Value) (h : AH) : Option (Value × AH) := match args with
  | ⟨[x0]⟩ => F159 inv k x0 h
  | args => eFun env k inv 159 args h
theorem sF159_eq (inv : Inv) (k : Nat) (args : Array Value) (h : AH) : sF159 inv k args h = eFun env k inv 159 args h := by
  unfold sF159
  split
  · exact F159_eq.symm
  · rfl
noncomputable def sF160 (inv : Inv) (k : Nat) (args : Array Value) (h : AH) : Option (Value × AH) := match args with
  | ⟨[x0, x1]⟩ => F160 inv k x0 x1 h
  | args => eFun env k inv 160 args h
theorem sF160_eq (inv : Inv) (k : Nat) (args : Array Value) (h : AH) : sF160 inv k args h = eFun env k inv 160 args h := by
  unfold sF160
  split
  · exact F160_eq.symm
  · rfl
noncomputable def sF161 (inv : Inv) (k : Nat) (args : Array Value) (h : AH) : Option (Value × AH) := match args with
  | ⟨[x0, x1]⟩ => F161 inv k x0 x1 h
  | args => eFun env k inv 161 args h
theorem sF161_eq (inv : Inv) (k : Nat) (args : Array Value) (h : AH) : sF161 inv k args h = eFun env k inv 161 args h := by
  unfold sF161
  split
  · exact F161_eq.symm
  · rfl
noncomputable def sF162 (inv : Inv) (k : Nat) (args : Array Value) (h : AH) : Option (Value × AH) := match args with
  | ⟨[x0, x1]⟩ => F162 inv k x0 x1 h
  | args => eFun env k inv 162 args h
theorem sF162_eq (inv : Inv) (k : Nat) (args : Array Value) (h : AH) : sF162 inv k args h = eFun env k inv 162 args h := by
  unfold sF162
  split
  · exact F162_eq.symm
  · rfl
noncomputable def sF163 (inv : Inv) (k : Nat) (args : Array Value) (h : AH) : Option (Value × AH) := match args with
  | ⟨[x0, x1]⟩ => F163 inv k x0 x1 h
  | args => eFun env k inv 163 args h
theorem sF163_eq (inv : Inv) (k : Nat) (args : Array Value) (h : AH) : sF163 inv k args h = eFun env k inv 163 args h := by
  unfold sF163
  split
  · exact F163_eq.symm
  · rfl
noncomputable def sF164 (inv : Inv) (k : Nat) (args : Array Value) (h : AH) : Option (Value × AH) := match args with
  | ⟨[x0, x1]⟩ => F164 inv k x0 x1 h
  | args => eFun env k inv 164 args h
theorem sF164_eq (inv : Inv) (k : Nat) (args : Array Value) (h : AH) : sF164 inv k args h = eFun env k inv 164 args h := by
  unfold sF164
  split
  · exact F164_eq.symm
  · rfl
noncomputable def sF165 (inv : Inv) (k : Nat) (args : Array Value) (h : AH) : Option (Value × AH) := match args with
  | ⟨[x0, x1]⟩ => F165 inv k x0 x1 h
  | args => eFun env k inv 165 args h
theorem sF165_eq (inv : Inv) (k : Nat) (args : Array Value) (h : AH) : sF165 inv k args h = eFun env k inv 165 args h := by
  unfold sF165
  split
  · exact F165_eq.symm
  · rfl
noncomputable def sF166 (inv : Inv) (k : Nat) (args : Array Value) (h : AH) : Option (Value × AH) := match args with
  | ⟨[x0]⟩ => F166 inv k x0 h
  | args => eFun env k inv 166 args h
theorem sF166_eq (inv : Inv) (k : Nat) (args : Array Value) (h : AH) : sF166 inv k args h = eFun env k inv 166 args h := by
  unfold sF166
  split
  · exact F166_eq.symm
  · rfl
noncomputable def sF167 (inv : Inv) (k : Nat) (args : Array Value) (h : AH) : Option (Value × AH) := match args with
  | ⟨[x0, x1]⟩ => F167 inv k x0 x1 h
  | args => eFun env k inv 167 args h
theorem sF167_eq (inv : Inv) (k : Nat) (args : Array Value) (h : AH) : sF167 inv k args h = eFun env k inv 167 args h := by
  unfold sF167
  split
  · exact F167_eq.symm
  · rfl
noncomputable def sF168 (inv : Inv) (k : Nat) (args : Array Value) (h : AH) : Option (Value × AH) := match args with
  | ⟨[x0, x1]⟩ => F168 inv k x0 x1 h
  | args => eFun env k inv 168 args h
theorem sF168_eq (inv : Inv) (k : Nat) (args : Array Value) (h : AH) : sF168 inv k args h = eFun env k inv 168 args h := by
  unfold sF168
  split
  · exact F168_eq.symm
  · rfl
noncomputable def sF169 (inv : Inv) (k : Nat) (args : Array Value) (h : AH) : Option (Value × AH) := match args with
  | ⟨[x0]⟩ => F169 inv k x0 h
  | args => eFun env k inv 169 args h
theorem sF169_eq (inv : Inv) (k : Nat) (args : Array Value) (h : AH) : sF169 inv k args h = eFun env k inv 169 args h := by
  unfold sF169
  split
  · exact F169_eq.symm
  · rfl
noncomputable def sF171 (inv : Inv) (k : Nat) (args : Array Value) (h : AH) : Option (Value × AH) := match args with
  | ⟨[x0]⟩ => F171 inv k x0 h
  | args => eFun env k inv 171 args h
theorem sF171_eq (inv : Inv) (k : Nat) (args : Array Value) (h : AH) : sF171 inv k args h = eFun env k inv 171 args h := by
  unfold sF171
  split
  · exact F171_eq.symm
  · rfl
noncomputable def sF172 (inv : Inv) (k : Nat) (args : Array Value) (h : AH) : Option (Value × AH) := match args with
  | ⟨[x0, x1]⟩ => F172 inv k x0 x1 h
  | args => eFun env k inv 172 args h
theorem sF172_eq (inv : Inv) (k : Nat) (args : Array Value) (h : AH) : sF172 inv k args h = eFun env k inv 172 args h := by
  unfold sF172
  split
  · exact F172_eq.symm
  · rfl
noncomputable def sF173 (inv : Inv) (k : Nat) (args : Array Value) (h : AH) : Option (Value × AH) := match args with
  | ⟨[x0]⟩ => F173 inv k x0 h
  | args => eFun env k inv 173 args h
theorem sF173_eq (inv : Inv) (k : Nat) (args : Array Value) (h : AH) : sF173 inv k args h = eFun env k inv 173 args h := by
  unfold sF173
  split
  · exact F173_eq.symm
  · rfl
noncomputable def sF175 (inv : Inv) (k : Nat) (args : Array Value) (h : AH) : Option (Value × AH) := match args with
  | ⟨[x0, x1]⟩ => F175 inv k x0 x1 h
  | args => eFun env k inv 175 args h
theorem sF175_eq (inv : Inv) (k : Nat) (args : Array Value) (h : AH) : sF175 inv k args h = eFun env k inv 175 args h := by
  unfold sF175
  split
  · exact F175_eq.symm
  · rfl
noncomputable def sF178 (inv : Inv) (k : Nat) (args : Array Value) (h : AH) : Option (Value × AH) := match args with
  | ⟨[x0, x1]⟩ => F178 inv k x0 x1 h
  | args => eFun env k inv 178 args h
theorem sF178_eq (inv : Inv) (k : Nat) (args : Array Value) (h : AH) : sF178 inv k args h = eFun env k inv 178 args h := by
  unfold sF178
  split
  · exact F178_eq.symm
  · rfl
noncomputable def sF179 (inv : Inv) (k : Nat) (args : Array Value) (h : AH) : Option (Value × AH) := match args with
  | ⟨[x0]⟩ => F179 inv k x0 h
  | args => eFun env k inv 179 args h
theorem sF179_eq (inv : Inv) (k : Nat) (args : Array Value) (h : AH) : sF179 inv k args h = eFun env k inv 179 args h := by
  unfold sF179
  split
  · exact F179_eq.symm
  · rfl
noncomputable def sF213 (inv : Inv) (k : Nat) (args : Array Value) (h : AH) : Option (Value × AH) := match args with
  | ⟨[x0, x1, x2]⟩ => F213 inv k x0 x1 x2 h
  | args => eFun env k inv 213 args h
theorem sF213_eq (inv : Inv) (k : Nat) (args : Array Value) (h : AH) : sF213 inv k args h = eFun env k inv 213 args h := by
  unfold sF213
  split
  · exact F213_eq.symm
  · rfl
noncomputable def sF214 (inv : Inv) (k : Nat) (args : Array Value) (h : AH) : Option (Value × AH) := match args with
  | ⟨[x0, x1]⟩ => F214 inv k x0 x1 h
  | args => eFun env k inv 214 args h
theorem sF214_eq (inv : Inv) (k : Nat) (args : Array Value) (h : AH) : sF214 inv k args h = eFun env k inv 214 args h := by
  unfold sF214
  split
  · exact F214_eq.symm
  · rfl
noncomputable def sF215 (inv : Inv) (k : Nat) (args : Array Value) (h : AH) : Option (Value × AH) := match args with
  | ⟨[x0, x1]⟩ => F215 inv k x0 x1 h
  | args => eFun env k inv 215 args h
theorem sF215_eq (inv : Inv) (k : Nat) (args : Array Value) (h : AH) : sF215 inv k args h = eFun env k inv 215 args h := by
  unfold sF215
  split
  · exact F215_eq.symm
  · rfl
noncomputable def sF216 (inv : Inv) (k : Nat) (args : Array Value) (h : AH) : Option (Value × AH) := match args with
  | ⟨[x0, x1, x2]⟩ => F216 inv k x0 x1 x2 h
  | args => eFun env k inv 216 args h
theorem sF216_eq (inv : Inv) (k : Nat) (args : Array Value) (h : AH) : sF216 inv k args h = eFun env k inv 216 args h := by
  unfold sF216
  split
  · exact F216_eq.symm
  · rfl
noncomputable def sF217 (inv : Inv) (k : Nat) (args : Array Value) (h : AH) : Option (Value × AH) := match args with
  | ⟨[x0, x1, x2]⟩ => F217 inv k x0 x1 x2 h
  | args => eFun env k inv 217 args h
theorem sF217_eq (inv : Inv) (k : Nat) (args : Array Value) (h : AH) : sF217 inv k args h = eFun env k inv 217 args h := by
  unfold sF217
  split
  · exact F217_eq.symm
  · rfl
noncomputable def sF218 (inv : Inv) (k : Nat) (args : Array Value) (h : AH) : Option (Value × AH) := match args with
  | ⟨[x0, x1]⟩ => F218 inv k x0 x1 h
  | args => eFun env k inv 218 args h
theorem sF218_eq (inv : Inv) (k : Nat) (args : Array Value) (h : AH) : sF218 inv k args h = eFun env k inv 218 args h := by
  unfold sF218
  split
  · exact F218_eq.symm
  · rfl
noncomputable def sF219 (inv : Inv) (k : Nat) (args : Array Value) (h : AH) : Option (Value × AH) := match args with
  | ⟨[x0, x1]⟩ => F219 inv k x0 x1 h
  | args => eFun env k inv 219 args h
theorem sF219_eq (inv : Inv) (k : Nat) (args : Array Value) (h : AH) : sF219 inv k args h = eFun env k inv 219 args h := by
  unfold sF219
  split
  · exact F219_eq.symm
  · rfl
noncomputable def sF220 (inv : Inv) (k : Nat) (args : Array Value) (h : AH) : Option (Value × AH) := match args with
  | ⟨[x0, x1, x2]⟩ => F220 inv k x0 x1 x2 h
  | args => eFun env k inv 220 args h
theorem sF220_eq (inv : Inv) (k : Nat) (args : Array Value) (h : AH) : sF220 inv k args h = eFun env k inv 220 args h := by
  unfold sF220
  split
  · exact F220_eq.symm
  · rfl
noncomputable def sF221 (inv : Inv) (k : Nat) (args : Array Value) (h : AH) : Option (Value × AH) := match args with
  | ⟨[x0, x1, x2]⟩ => F221 inv k x0 x1 x2 h
  | args => eFun env k inv 221 args h
theorem sF221_eq (inv : Inv) (k : Nat) (args : Array Value) (h : AH) : sF221 inv k args h = eFun env k inv 221 args h := by
  unfold sF221
  split
  · exact F221_eq.symm
  · rfl
noncomputable def sF222 (inv : Inv) (k : Nat) (args : Array Value) (h : AH) : Option (Value × AH) := match args with
  | ⟨[x0, x1]⟩ => F222 inv k x0 x1 h
  | args => eFun env k inv 222 args h
theorem sF222_eq (inv : Inv) (k : Nat) (args : Array Value) (h : AH) : sF222 inv k args h = eFun env k inv 222 args h := by
  unfold sF222
  split
  · exact F222_eq.symm
  · rfl
noncomputable def sF223 (inv : Inv) (k : Nat) (args : Array Value) (h : AH) : Option (Value × AH) := match args with
  | ⟨[x0, x1]⟩ => F223 inv k x0 x1 h
  | args => eFun env k inv 223 args h
theorem sF223_eq (inv : Inv) (k : Nat) (args : Array Value) (h : AH) : sF223 inv k args h = eFun env k inv 223 args h := by
  unfold sF223
  split
  · exact F223_eq.symm
  · rfl
noncomputable def sF224 (inv : Inv) (k : Nat) (args : Array Value) (h : AH) : Option (Value × AH) := match args with
  | ⟨[x0, x1, x2]⟩ => F224 inv k x0 x1 x2 h
  | args => eFun env k inv 224 args h
theorem sF224_eq (inv : Inv) (k : Nat) (args : Array Value) (h : AH) : sF224 inv k args h = eFun env k inv 224 args h := by
  unfold sF224
  split
  · exact F224_eq.symm
  · rfl
def pickF {α : Type} (d : α) : List (Nat × α) → Nat → α
  | [], _ => d
  | (i, x) :: l, j => bif Nat.beq i j then x else pickF d l j
theorem pickF_spec {α : Type} {d : α} {j : Nat} (P : Nat → α → Prop) (hd : P j d) : ∀ (l : List (Nat × α)), (∀ p ∈ l, P p.1 p.2) → P j (pickF d l j)
  | [], _ => hd
  | (i, x) :: l, h => by
    unfold pickF
    cases q : Nat.beq i j
    · exact pickF_spec P hd l fun p hp => h p (List.mem_cons_of_mem _ hp)
    · have : i = j := Nat.eq_of_beq_eq_true q
      subst this
      exact h _ (List.mem_cons_self ..)
noncomputable def sTab (inv : Inv) (k : Nat) : List (Nat × (Array Value → AH → Option (Value × AH))) := [(6, sF6 inv k), (9, sF9 inv k), (11, sF11 inv k), (13, sF13 inv k), (15, sF15 inv k), (20, sF20 inv k), (21, sF21 inv k), (22, sF22 inv k), (28, sF28 inv k), (29, sF29 inv k), (30, sF30 inv k), (31, sF31 inv k), (36, sF36 inv k), (39, sF39 inv k), (44, sF44 inv k), (45, sF45 inv k), (46, sF46 inv k), (47, sF47 inv k), (48, sF48 inv k), (49, sF49 inv k), (50, sF50 inv k), (51, sF51 inv k), (52, sF52 inv k), (56, sF56 inv k), (57, sF57 inv k), (58, sF58 inv k), (59, sF59 inv k), (60, sF60 inv k), (61, sF61 inv k), (72, sF72 inv k), (73, sF73 inv k), (74, sF74 inv k), (75, sF75 inv k), (76, sF76 inv k), (77, sF77 inv k), (78, sF78 inv k), (79, sF79 inv k), (80, sF80 inv k), (81, sF81 inv k), (82, sF82 inv k), (83, sF83 inv k), (84, sF84 inv k), (85, sF85 inv k), (86, sF86 inv k), (87, sF87 inv k), (88, sF88 inv k), (89, sF89 inv k), (90, sF90 inv k), (91, sF91 inv k), (92, sF92 inv k), (93, sF93 inv k), (94, sF94 inv k), (95, sF95 inv k), (96, sF96 inv k), (97, sF97 inv k), (98, sF98 inv k), (99, sF99 inv k), (100, sF100 inv k), (101, sF101 inv k), (103, sF103 inv k), (104, sF104 inv k), (105, sF105 inv k), (106, sF106 inv k), (120, sF120 inv k), (121, sF121 inv k), (122, sF122 inv k), (123, sF123 inv k), (124, sF124 inv k), (125, sF125 inv k), (126, sF126 inv k), (127, sF127 inv k), (128, sF128 inv k), (129, sF129 inv k), (130, sF130 inv k), (131, sF131 inv k), (132, sF132 inv k), (133, sF133 inv k), (134, sF134 inv k), (135, sF135 inv k), (136, sF136 inv k), (137, sF137 inv k), (138, sF138 inv k), (143, sF143 inv k), (144, sF144 inv k), (145, sF145 inv k), (146, sF146 inv k), (147, sF147 inv k), (148, sF148 inv k), (149, sF149 inv k), (150, sF150 inv k), (151, sF151 inv k), (152, sF152 inv k), (153, sF153 inv k), (154, sF154 inv k), (155, sF155 inv k), (156, sF156 inv k), (157, sF157 inv k), (158, sF158 inv k), (159, sF159 inv k), (160, sF160 inv k), (161, sF161 inv k), (162, sF162 inv k), (163, sF163 inv k), (164, sF164 inv k), (165, sF165 inv k), (166, sF166 inv k), (167, sF167 inv k), (168, sF168 inv k), (169, sF169 inv k), (171, sF171 inv k), (172, sF172 inv k), (173, sF173 inv k), (175, sF175 inv k), (178, sF178 inv k), (179, sF179 inv k), (213, sF213 inv k), (214, sF214 inv k), (215, sF215 inv k), (216, sF216 inv k), (217, sF217 inv k), (218, sF218 inv k), (219, sF219 inv k), (220, sF220 inv k), (221, sF221 inv k), (222, sF222 inv k), (223, sF223 inv k), (224, sF224 inv k)]
theorem sTab_eq (inv : Inv) (k : Nat) : ∀ p ∈ sTab inv k, ∀ args h, p.2 args h = eFun env k inv p.1 args h := by
  unfold sTab
  intro p hp
  rcases List.mem_cons.1 hp with rfl | hp
  · exact sF6_eq inv k
  rcases List.mem_cons.1 hp with rfl | hp
  · exact sF9_eq inv k
  rcases List.mem_cons.1 hp with rfl | hp
  · exact sF11_eq inv k
  rcases List.mem_cons.1 hp with rfl | hp
  · exact sF13_eq inv k
  rcases List.mem_cons.1 hp with rfl | hp
  · exact sF15_eq inv k
  rcases List.mem_cons.1 hp with rfl | hp
  · exact sF20_eq inv k
  rcases List.mem_cons.1 hp with rfl | hp
  · exact sF21_eq inv k
  rcases List.mem_cons.1 hp with rfl | hp
  · exact sF22_eq inv k
  rcases List.mem_cons.1 hp with rfl | hp
  · exact sF28_eq inv k
  rcases List.mem_cons.1 hp with rfl | hp
  · exact sF29_eq inv k
  rcases List.mem_cons.1 hp with rfl | hp
  · exact sF30_eq inv k
  rcases List.mem_cons.1 hp with rfl | hp
  · exact sF31_eq inv k
  rcases List.mem_cons.1 hp with rfl | hp
  · exact sF36_eq inv k
  rcases List.mem_cons.1 hp with rfl | hp
  · exact sF39_eq inv k
  rcases List.mem_cons.1 hp with rfl | hp
  · exact sF44_eq inv k
  rcases List.mem_cons.1 hp with rfl | hp
  · exact sF45_eq inv k
  rcases List.mem_cons.1 hp with rfl | hp
  · exact sF46_eq inv k
  rcases List.mem_cons.1 hp with rfl | hp
  · exact sF47_eq inv k
  rcases List.mem_cons.1 hp with rfl | hp
  · exact sF48_eq inv k
  rcases List.mem_cons.1 hp with rfl | hp
  · exact sF49_eq inv k
  rcases List.mem_cons.1 hp with rfl | hp
  · exact sF50_eq inv k
  rcases List.mem_cons.1 hp with rfl | hp
  · exact sF51_eq inv k
  rcases List.mem_cons.1 hp with rfl | hp
  · exact sF52_eq inv k
  rcases List.mem_cons.1 hp with rfl | hp
  · exact sF56_eq inv k
  rcases List.mem_cons.1 hp with rfl | hp
  · exact sF57_eq inv k
  rcases List.mem_cons.1 hp with rfl | hp
  · exact sF58_eq inv k
  rcases List.mem_cons.1 hp with rfl | hp
  · exact sF59_eq inv k
  rcases List.mem_cons.1 hp with rfl | hp
  · exact sF60_eq inv k
  rcases List.mem_cons.1 hp with rfl | hp
  · exact sF61_eq inv k
  rcases List.mem_cons.1 hp with rfl | hp
  · exact sF72_eq inv k
  rcases List.mem_cons.1 hp with rfl | hp
  · exact sF73_eq inv k
  rcases List.mem_cons.1 hp with rfl | hp
  · exact sF74_eq inv k
  rcases List.mem_cons.1 hp with rfl | hp
  · exact sF75_eq inv k
  rcases List.mem_cons.1 hp with rfl | hp
  · exact sF76_eq inv k
  rcases List.mem_cons.1 hp with rfl | hp
  · exact sF77_eq inv k
  rcases List.mem_cons.1 hp with rfl | hp
  · exact sF78_eq inv k
  rcases List.mem_cons.1 hp with rfl | hp
  · exact sF79_eq inv k
  rcases List.mem_cons.1 hp with rfl | hp
  · exact sF80_eq inv k
  rcases List.mem_cons.1 hp with rfl | hp
  · exact sF81_eq inv k
  rcases List.mem_cons.1 hp with rfl | hp
  · exact sF82_eq inv k
  rcases List.mem_cons.1 hp with rfl | hp
  · exact sF83_eq inv k
  rcases List.mem_cons.1 hp with rfl | hp
  · exact sF84_eq inv k
  rcases List.mem_cons.1 hp with rfl | hp
  · exact sF85_eq inv k
  rcases List.mem_cons.1 hp with rfl | hp
  · exact sF86_eq inv k
  rcases List.mem_cons.1 hp with rfl | hp
  · exact sF87_eq inv k
  rcases List.mem_cons.1 hp with rfl | hp
  · exact sF88_eq inv k
  rcases List.mem_cons.1 hp with rfl | hp
  · exact sF89_eq inv k
  rcases List.mem_cons.1 hp with rfl | hp
  · exact sF90_eq inv k
  rcases List.mem_cons.1 hp with rfl | hp
  · exact sF91_eq inv k
  rcases List.mem_cons.1 hp with rfl | hp
  · exact sF92_eq inv k
  rcases List.mem_cons.1 hp with rfl | hp
  · exact sF93_eq inv k
  rcases List.mem_cons.1 hp with rfl | hp
  · exact sF94_eq inv k
  rcases List.mem_cons.1 hp with rfl | hp
  · exact sF95_eq inv k
  rcases List.mem_cons.1 hp with rfl | hp
  · exact sF96_eq inv k
  rcases List.mem_cons.1 hp with rfl | hp
  · exact sF97_eq inv k
  rcases List.mem_cons.1 hp with rfl | hp
  · exact sF98_eq inv k
  rcases List.mem_cons.1 hp with rfl | hp
  · exact sF99_eq inv k
  rcases List.mem_cons.1 hp with rfl | hp
  · exact sF100_eq inv k
  rcases List.mem_cons.1 hp with rfl | hp
  · exact sF101_eq inv k
  rcases List.mem_cons.1 hp with rfl | hp
  · exact sF103_eq inv k
  rcases List.mem_cons.1 hp with rfl | hp
  · exact sF104_eq inv k
  rcases List.mem_cons.1 hp with rfl | hp
  · exact sF105_eq inv k
  rcases List.mem_cons.1 hp with rfl | hp
  · exact sF106_eq inv k
  rcases List.mem_cons.1 hp with rfl | hp
  · exact sF120_eq inv k
  rcases List.mem_cons.1 hp with rfl | hp
  · exact sF121_eq inv k
  rcases List.mem_cons.1 hp with rfl | hp
  · exact sF122_eq inv k
  rcases List.mem_cons.1 hp with rfl | hp
  · exact sF123_eq inv k
  rcases List.mem_cons.1 hp with rfl | hp
  · exact sF124_eq inv k
  rcases List.mem_cons.1 hp with rfl | hp
  · exact sF125_eq inv k
  rcases List.mem_cons.1 hp with rfl | hp
  · exact sF126_eq inv k
  rcases List.mem_cons.1 hp with rfl | hp
  · exact sF127_eq inv k
  rcases List.mem_cons.1 hp with rfl | hp
  · exact sF128_eq inv k
  rcases List.mem_cons.1 hp with rfl | hp
  · exact sF129_eq inv k
  rcases List.mem_cons.1 hp with rfl | hp
  · exact sF130_eq inv k
  rcases List.mem_cons.1 hp with rfl | hp
  · exact sF131_eq inv k
  rcases List.mem_cons.1 hp with rfl | hp
  · exact sF132_eq inv k
  rcases List.mem_cons.1 hp with rfl | hp
  · exact sF133_eq inv k
  rcases List.mem_cons.1 hp with rfl | hp
  · exact sF134_eq inv k
  rcases List.mem_cons.1 hp with rfl | hp
  · exact sF135_eq inv k
  rcases List.mem_cons.1 hp with rfl | hp
  · exact sF136_eq inv k
  rcases List.mem_cons.1 hp with rfl | hp
  · exact sF137_eq inv k
  rcases List.mem_cons.1 hp with rfl | hp
  · exact sF138_eq inv k
  rcases List.mem_cons.1 hp with rfl | hp
  · exact sF143_eq inv k
  rcases List.mem_cons.1 hp with rfl | hp
  · exact sF144_eq inv k
  rcases List.mem_cons.1 hp with rfl | hp
  · exact sF145_eq inv k
  rcases List.mem_cons.1 hp with rfl | hp
  · exact sF146_eq inv k
  rcases List.mem_cons.1 hp with rfl | hp
  · exact sF147_eq inv k
  rcases List.mem_cons.1 hp with rfl | hp
  · exact sF148_eq inv k
  rcases List.mem_cons.1 hp with rfl | hp
  · exact sF149_eq inv k
  rcases List.mem_cons.1 hp with rfl | hp
  · exact sF150_eq inv k
  rcases List.mem_cons.1 hp with rfl | hp
  · exact sF151_eq inv k
  rcases List.mem_cons.1 hp with rfl | hp
  · exact sF152_eq inv k
  rcases List.mem_cons.1 hp with rfl | hp
  · exact sF153_eq inv k
  rcases List.mem_cons.1 hp with rfl | hp
  · exact sF154_eq inv k
  rcases List.mem_cons.1 hp with rfl | hp
  · exact sF155_eq inv k
  rcases List.mem_cons.1 hp with rfl | hp
  · exact sF156_eq inv k
  rcases List.mem_cons.1 hp with rfl | hp
  · exact sF157_eq inv k
  rcases List.mem_cons.1 hp with rfl | hp
  · exact sF158_eq inv k
  rcases List.mem_cons.1 hp with rfl | hp
  · exact sF159_eq inv k
  rcases List.mem_cons.1 hp with rfl | hp
  · exact sF160_eq inv k
  rcases List.mem_cons.1 hp with rfl | hp
  · exact sF161_eq inv k
  rcases List.mem_cons.1 hp with rfl | hp
  · exact sF162_eq inv k
  rcases List.mem_cons.1 hp with rfl | hp
  · exact sF163_eq inv k
  rcases List.mem_cons.1 hp with rfl | hp
  · exact sF164_eq inv k
  rcases List.mem_cons.1 hp with rfl | hp
  · exact sF165_eq inv k
  rcases List.mem_cons.1 hp with rfl | hp
  · exact sF166_eq inv k
  rcases List.mem_cons.1 hp with rfl | hp
  · exact sF167_eq inv k
  rcases List.mem_cons.1 hp with rfl | hp
  · exact sF168_eq inv k
  rcases List.mem_cons.1 hp with rfl | hp
  · exact sF169_eq inv k
  rcases List.mem_cons.1 hp with rfl | hp
  · exact sF171_eq inv k
  rcases List.mem_cons.1 hp with rfl | hp
  · exact sF172_eq inv k
  rcases List.mem_cons.1 hp with rfl | hp
  · exact sF173_eq inv k
  rcases List.mem_cons.1 hp with rfl | hp
  · exact sF175_eq inv k
  rcases List.mem_cons.1 hp with rfl | hp
  · exact sF178_eq inv k
  rcases List.mem_cons.1 hp with rfl | hp
  · exact sF179_eq inv k
  rcases List.mem_cons.1 hp with rfl | hp
  · exact sF213_eq inv k
  rcases List.mem_cons.1 hp with rfl | hp
  · exact sF214_eq inv k
  rcases List.mem_cons.1 hp with rfl | hp
  · exact sF215_eq inv k
  rcases List.mem_cons.1 hp with rfl | hp
  · exact sF216_eq inv k
  rcases List.mem_cons.1 hp with rfl | hp
  · exact sF217_eq inv k
  rcases List.mem_cons.1 hp with rfl | hp
  · exact sF218_eq inv k
  rcases List.mem_cons.1 hp with rfl | hp
  · exact sF219_eq inv k
  rcases List.mem_cons.1 hp with rfl | hp
  · exact sF220_eq inv k
  rcases List.mem_cons.1 hp with rfl | hp
  · exact sF221_eq inv k
  rcases List.mem_cons.1 hp with rfl | hp
  · exact sF222_eq inv k
  rcases List.mem_cons.1 hp with rfl | hp
  · exact sF223_eq inv k
  rcases List.mem_cons.1 hp with rfl | hp
  · exact sF224_eq inv k
  cases hp
noncomputable def sFun (inv : Inv) (k : Nat) (f : FuncId) (args : Array Value) (h : AH) : Option (Value × AH) := pickF (eFun env k inv f) (sTab inv k) f args h
theorem sFun_eq (inv : Inv) (k : Nat) (f : FuncId) (args : Array Value) (h : AH) : sFun inv k f args h = eFun env k inv f args h :=
  pickF_spec (fun j (g : Array Value → AH → Option (Value × AH)) => ∀ args h, g args h = eFun env k inv j args h) (fun _ _ => rfl) (sTab inv k) (sTab_eq inv k) args h
noncomputable def sInv : Nat → Inv
  | 0 => fun _ _ _ _ => none
  | k + 1 => fun fn captured args h => match eTarget env.P fn captured args with
    | some (true, f, as1) => (match env.X f with
      | some g => (g as1).map fun v => (v, h)
      | none => sFun (sInv k) k f as1 h)
    | some (false, l, as1) => eRound env k (sInv k) l as1 h
    | none => none
theorem sInv_eq (k : Nat) : sInv k = eInv env k := by
  induction k with
  | zero => rfl
  | succ k ih =>
    funext fn captured args h
    simp only [sInv, eInv, ih, sFun_eq]
    cases eTarget env.P fn captured args with
    | none => rfl
    | some q =>
      obtain ⟨b, f, as1⟩ := q
      cases b
      · rfl
      · dsimp only; cases env.X f <;> rfl
end Go.Proofs.YtghelamfaaakcaaGreat.Sh
