/- Numbers with signs as numbers without; how many bits, how many bytes of seven bits. No program in sight. -/
import Derived.Test.YtagcejlclcldcaaEvC
set_option linter.unusedVariables false
set_option linter.unusedSimpArgs false
namespace Go.Proofs.Ev
open Go

theorem wrap_u8 (z : Int) : IntKind.u8.wrap z = z % 256 := by
  unfold IntKind.wrap
  simp [IntKind.signed, IntKind.bits]
theorem bin_rem {P : Program} {k : IntKind} {t : TypeId} {x y : Operand} {a b : Int} (hb : b ≠ 0) : pBin P .rem t x y (.int k a) (.int k b) = some (.int k (a.tmod b)) := by
  cases k <;> simp [pBin, plain, plain0, prun_bind, binOp, Op.intDiv, hb, chk, eqGuard]
section
variable {P : Program} {t : TypeId} {x y : Operand} {a b : Int}
end

/-! ### How many bits; bytes of seven bits -/
def bl (v : Nat) : Nat := if h : v = 0 then 0 else bl (v / 2) + 1
termination_by v
decreasing_by omega
theorem bl_zero : bl 0 = 0 := by unfold bl; simp
theorem bl_pos {v : Nat} (h : 0 < v) : bl v = bl (v / 2) + 1 := by
  conv => lhs; unfold bl
  rw [dif_neg (by omega)]
theorem bl_shift (k : Nat) : ∀ v : Nat, 2 ^ k ≤ v → bl v = bl (v / 2 ^ k) + k := by
  induction k with
  | zero => intro v _; simp
  | succ k ih =>
    intro v h
    have hp : 2 ^ (k + 1) = 2 * 2 ^ k := by rw [Nat.pow_succ, Nat.mul_comm]
    have hpos : 0 < 2 ^ k := Nat.two_pow_pos k
    rw [bl_pos (by omega), ih (v / 2) (by rw [Nat.le_div_iff_mul_le (by omega)]; omega), Nat.div_div_eq_div_mul, ← hp]
    omega
theorem bl_le (k : Nat) : ∀ v : Nat, v < 2 ^ k → bl v ≤ k := by
  induction k with
  | zero => intro v h; have : v = 0 := by simp at h; exact h
            subst this; rw [bl_zero]; omega
  | succ k ih =>
    intro v h
    by_cases hv : v = 0
    · subst hv; rw [bl_zero]; omega
    · rw [bl_pos (by omega)]
      have hp : 2 ^ (k + 1) = 2 * 2 ^ k := by rw [Nat.pow_succ, Nat.mul_comm]
      have := ih (v / 2) (by omega)
      omega
/-- The bytes of a number of any length. -/
def pvar (v : Nat) : List Int := if h : v < 128 then [(v : Int)] else ((v % 128 + 128 : Nat) : Int) :: pvar (v / 128)
termination_by v
decreasing_by omega
theorem pvar_lt {v : Nat} (h : v < 128) : pvar v = [(v : Int)] := by unfold pvar; rw [dif_pos h]
theorem pvar_ge {v : Nat} (h : ¬ v < 128) : pvar v = ((v % 128 + 128 : Nat) : Int) :: pvar (v / 128) := by
  conv => lhs; unfold pvar
  rw [dif_neg h]
theorem pvar_len (v : Nat) : (pvar v).length = max 1 ((bl v + 6) / 7) := by
  induction v using Nat.strongRecOn with
  | _ v ih =>
    by_cases h : v < 128
    · rw [pvar_lt h]
      have := bl_le 7 v h
      simp
      omega
    · rw [pvar_ge h, List.length_cons, ih (v / 128) (by omega), bl_shift 7 v (by omega)]
      have : 1 ≤ bl (v / 2 ^ 7) := by
        rw [bl_pos (by omega)]; omega
      show max 1 ((bl (v / 128) + 6) / 7) + 1 = _
      have e : v / 2 ^ 7 = v / 128 := by simp
      rw [e] at this ⊢
      omega
end Go.Proofs.Ev
