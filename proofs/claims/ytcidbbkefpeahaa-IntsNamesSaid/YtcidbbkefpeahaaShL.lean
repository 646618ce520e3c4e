/- The shallow functions together. Printed by a program of the prover's own from the loaded program; Lean checks it. -/
import Derived.Test.YtcidbbkefpeahaaSh1
import Derived.Test.YtcidbbkefpeahaaSh2
set_option linter.unusedVariables false
set_option linter.unusedSimpArgs false
set_option maxRecDepth 100000
namespace Go.Proofs.Ytcidbbkefpeahaa.Sh
open Go Go.RowKit Go.Proofs.Ev
set_option maxHeartbeats 40000000
noncomputable def sFun (inv : Inv) (k : Nat) (f : FuncId) (args : Array Value) (h : AH) : Option (Value × AH) := match f, args with
  | 5, ⟨[]⟩ => F5 inv k  h
  | 8, ⟨[]⟩ => F8 inv k  h
  | 10, ⟨[x0]⟩ => F10 inv k x0 h
  | 11, ⟨[x0]⟩ => F11 inv k x0 h
  | 13, ⟨[x0]⟩ => F13 inv k x0 h
  | 14, ⟨[x0]⟩ => F14 inv k x0 h
  | 15, ⟨[x0]⟩ => F15 inv k x0 h
  | 16, ⟨[x0]⟩ => F16 inv k x0 h
  | 17, ⟨[x0, x1]⟩ => F17 inv k x0 x1 h
  | 24, ⟨[]⟩ => F24 inv k  h
  | 25, ⟨[x0, x1]⟩ => F25 inv k x0 x1 h
  | 26, ⟨[x0, x1]⟩ => F26 inv k x0 x1 h
  | 27, ⟨[x0, x1]⟩ => F27 inv k x0 x1 h
  | 28, ⟨[x0]⟩ => F28 inv k x0 h
  | 29, ⟨[x0]⟩ => F29 inv k x0 h
  | 30, ⟨[x0, x1]⟩ => F30 inv k x0 x1 h
  | 31, ⟨[x0, x1, x2]⟩ => F31 inv k x0 x1 x2 h
  | 32, ⟨[x0, x1]⟩ => F32 inv k x0 x1 h
  | 33, ⟨[x0, x1]⟩ => F33 inv k x0 x1 h
  | 34, ⟨[x0]⟩ => F34 inv k x0 h
  | 35, ⟨[x0, x1]⟩ => F35 inv k x0 x1 h
  | 36, ⟨[x0]⟩ => F36 inv k x0 h
  | 37, ⟨[x0, x1]⟩ => F37 inv k x0 x1 h
  | 38, ⟨[x0, x1]⟩ => F38 inv k x0 x1 h
  | 39, ⟨[x0, x1]⟩ => F39 inv k x0 x1 h
  | 50, ⟨[x0, x1]⟩ => F50 inv k x0 x1 h
  | 51, ⟨[x0, x1]⟩ => F51 inv k x0 x1 h
  | 52, ⟨[x0, x1]⟩ => F52 inv k x0 x1 h
  | 53, ⟨[x0]⟩ => F53 inv k x0 h
  | 54, ⟨[x0]⟩ => F54 inv k x0 h
  | 55, ⟨[x0, x1]⟩ => F55 inv k x0 x1 h
  | 56, ⟨[x0, x1]⟩ => F56 inv k x0 x1 h
  | 57, ⟨[x0, x1, x2, x3]⟩ => F57 inv k x0 x1 x2 x3 h
  | 58, ⟨[x0]⟩ => F58 inv k x0 h
  | 59, ⟨[x0, x1]⟩ => F59 inv k x0 x1 h
  | 60, ⟨[x0]⟩ => F60 inv k x0 h
  | 61, ⟨[x0]⟩ => F61 inv k x0 h
  | 66, ⟨[x0, x1]⟩ => F66 inv k x0 x1 h
  | 67, ⟨[x0, x1]⟩ => F67 inv k x0 x1 h
  | 68, ⟨[x0]⟩ => F68 inv k x0 h
  | 69, ⟨[x0, x1, x2]⟩ => F69 inv k x0 x1 x2 h
  | 70, ⟨[x0]⟩ => F70 inv k x0 h
  | 71, ⟨[x0, x1]⟩ => F71 inv k x0 x1 h
  | 72, ⟨[x0]⟩ => F72 inv k x0 h
  | 73, ⟨[x0, x1]⟩ => F73 inv k x0 x1 h
  | 74, ⟨[x0, x1, x2]⟩ => F74 inv k x0 x1 x2 h
  | 75, ⟨[x0, x1, x2]⟩ => F75 inv k x0 x1 x2 h
  | 76, ⟨[x0, x1]⟩ => F76 inv k x0 x1 h
  | 77, ⟨[x0, x1]⟩ => F77 inv k x0 x1 h
  | 78, ⟨[x0, x1]⟩ => F78 inv k x0 x1 h
  | 79, ⟨[x0, x1]⟩ => F79 inv k x0 x1 h
  | 80, ⟨[x0, x1, x2]⟩ => F80 inv k x0 x1 x2 h
  | 81, ⟨[x0, x1, x2, x3]⟩ => F81 inv k x0 x1 x2 x3 h
  | f, args => eFun env k inv f args h
theorem sFun_eq (inv : Inv) (k : Nat) (f : FuncId) (args : Array Value) (h : AH) : sFun inv k f args h = eFun env k inv f args h := by
  unfold sFun
  split
  · exact F5_eq.symm
  · exact F8_eq.symm
  · exact F10_eq.symm
  · exact F11_eq.symm
  · exact F13_eq.symm
  · exact F14_eq.symm
  · exact F15_eq.symm
  · exact F16_eq.symm
  · exact F17_eq.symm
  · exact F24_eq.symm
  · exact F25_eq.symm
  · exact F26_eq.symm
  · exact F27_eq.symm
  · exact F28_eq.symm
  · exact F29_eq.symm
  · exact F30_eq.symm
  · exact F31_eq.symm
  · exact F32_eq.symm
  · exact F33_eq.symm
  · exact F34_eq.symm
  · exact F35_eq.symm
  · exact F36_eq.symm
  · exact F37_eq.symm
  · exact F38_eq.symm
  · exact F39_eq.symm
  · exact F50_eq.symm
  · exact F51_eq.symm
  · exact F52_eq.symm
  · exact F53_eq.symm
  · exact F54_eq.symm
  · exact F55_eq.symm
  · exact F56_eq.symm
  · exact F57_eq.symm
  · exact F58_eq.symm
  · exact F59_eq.symm
  · exact F60_eq.symm
  · exact F61_eq.symm
  · exact F66_eq.symm
  · exact F67_eq.symm
  · exact F68_eq.symm
  · exact F69_eq.symm
  · exact F70_eq.symm
  · exact F71_eq.symm
  · exact F72_eq.symm
  · exact F73_eq.symm
  · exact F74_eq.symm
  · exact F75_eq.symm
  · exact F76_eq.symm
  · exact F77_eq.symm
  · exact F78_eq.symm
  · exact F79_eq.symm
  · exact F80_eq.symm
  · exact F81_eq.symm
  · rfl
noncomputable def sInv : Nat → Inv
  | 0 => fun _ _ _ _ => none
  | k + 1 => fun fn captured args h => match eTarget env.P fn captured args with
    | some (true, f, as1) => (match env.X f with
      | some g => (g as1).map fun v => (v, h)
      | none => sFun (sInv k) k f as1 h)
    | some (false, l, as1) => eRound env k (sInv k) l as1 h
    | none => none
theorem sInv_eq (k : Nat) : sInv k = eInv env k := by
  induction k with
  | zero => rfl
  | succ k ih =>
    funext fn captured args h
    simp only [sInv, eInv, ih, sFun_eq]
    cases eTarget env.P fn captured args with
    | none => rfl
    | some q =>
      obtain ⟨b, f, as1⟩ := q
      cases b
      · rfl
      · dsimp only; cases env.X f <;> rfl
end Go.Proofs.Ytcidbbkefpeahaa.Sh
