/- Numbers with signs as numbers without; how many bits, how many bytes of seven bits. No program in sight. -/
import Derived.Test.YtlbmlncdjkdoaaaGreatEvC
set_option linter.unusedVariables false
set_option linter.unusedSimpArgs false
namespace Go.Proofs.Ev
open Go
theorem wrap_u64 (z : Int) : IntKind.u64.wrap z = z % 18446744073709551616:=by
 unfold IntKind.wrap
 simp [IntKind.signed,IntKind.bits]
theorem wrap_u8 (z : Int) : IntKind.u8.wrap z = z % 256:=by
 unfold IntKind.wrap
 simp [IntKind.signed,IntKind.bits]
theorem wrap_i64' (z : Int) : IntKind.i64.wrap z = if z % 18446744073709551616 ≥ 9223372036854775808 then z % 18446744073709551616 - 18446744073709551616 else z % 18446744073709551616:=by
 unfold IntKind.wrap
 simp [IntKind.signed,IntKind.bits]
theorem bin_rem {P : Program} {k : IntKind} {t : TypeId} {x y : Operand} {a b : Int} (hb : b ≠ 0) : pBin P .rem t x y (.int k a) (.int k b) = some (.int k (a.tmod b)):=by
 cases k <;> simp [pBin,plain,plain0,prun_bind,binOp,Op.intDiv,hb,chk,eqGuard]
theorem bin_quo {P : Program} {k : IntKind} {t : TypeId} {x y : Operand} {a b : Int} (hb : b ≠ 0) : pBin P .quo t x y (.int k a) (.int k b) = some (.int k (k.wrap (a.tdiv b))):=by
 cases k <;> simp [pBin,plain,plain0,prun_bind,binOp,Op.intDiv,hb,chk,eqGuard]
theorem ofInt_toNat (z : Int) (h0 : 0 ≤ z) (h1 : z < 18446744073709551616) : (BitVec.ofInt 64 z).toNat = z.toNat:=by
 rw [BitVec.toNat_ofInt]
 congr 1
 simp
 omega
theorem fdiv_pow {n : Int} (b : Int) (hb : 0 ≤ b) : n.fdiv b = n / b:=Int.fdiv_eq_ediv_of_nonneg n hb
theorem and_one {v : Int} (h0 : 0 ≤ v) (h1 : v < 18446744073709551616) : IntKind.u64.wrap (BitVec.ofInt 64 v &&& BitVec.ofInt 64 1).toNat = v % 2:=by
 have e1 : BitVec.ofInt 64 1 = 1#64:=by decide
 rw [BitVec.toNat_and,ofInt_toNat _ h0 h1,e1]
 have e2 : (1#64).toNat = 1:=by decide
 rw [e2,Nat.and_one_is_mod,wrap_u64]
 omega
section
variable {P : Program} {t : TypeId} {x y : Operand} {a b : Int}
theorem xor64u : pBin P .xor t x y (.int .u64 a) (.int .u64 b) = some (.int .u64 (IntKind.u64.wrap (BitVec.ofInt 64 a ^^^ BitVec.ofInt 64 b).toNat)):=bin_xor
theorem and64u : pBin P .and t x y (.int .u64 a) (.int .u64 b) = some (.int .u64 (IntKind.u64.wrap (BitVec.ofInt 64 a &&& BitVec.ofInt 64 b).toNat)):=bin_and
theorem and8 : pBin P .and t x y (.int .u8 a) (.int .u8 b) = some (.int .u8 (IntKind.u8.wrap (BitVec.ofInt 8 a &&& BitVec.ofInt 8 b).toNat)):=bin_and
theorem or64u : pBin P .or t x y (.int .u64 a) (.int .u64 b) = some (.int .u64 (IntKind.u64.wrap (BitVec.ofInt 64 a ||| BitVec.ofInt 64 b).toNat)):=bin_or
theorem or8 : pBin P .or t x y (.int .u8 a) (.int .u8 b) = some (.int .u8 (IntKind.u8.wrap (BitVec.ofInt 8 a ||| BitVec.ofInt 8 b).toNat)):=bin_or
theorem shr64u {k2 : IntKind} (hb : 0 ≤ b) : pBin P .shr t x y (.int .u64 a) (.int k2 b) = some (.int .u64 (a.fdiv (2 ^ (min b.toNat 64)))):=shr_nn hb
theorem shl8 {k2 : IntKind} (hb : 0 ≤ b) : pBin P .shl t x y (.int .u8 a) (.int k2 b) = some (.int .u8 (IntKind.u8.wrap (a * 2 ^ (min b.toNat 8)))):=shl_nn hb
end
/-! ### How many bits; bytes of seven bits -/
def bl (v : Nat) : Nat:=if h : v = 0 then 0 else bl (v / 2) + 1
termination_by v
decreasing_by omega
theorem bl_zero : bl 0 = 0:=by unfold bl; simp
theorem bl_pos {v : Nat} (h : 0 < v) : bl v = bl (v / 2) + 1:=by
 conv=>lhs; unfold bl
 rw [dif_neg (by omega)]
theorem bl_shift (k : Nat) : ∀ v : Nat,2 ^ k ≤ v→bl v = bl (v / 2 ^ k) + k:=by
 induction k with
 | zero=>intro v _; simp
 | succ k ih =>
  intro v h
  have hp : 2 ^ (k + 1) = 2 * 2 ^ k:=by rw [Nat.pow_succ,Nat.mul_comm]
  have hpos : 0 < 2 ^ k:=Nat.two_pow_pos k
  rw [bl_pos (by omega),ih (v / 2) (by rw [Nat.le_div_iff_mul_le (by omega)]; omega),Nat.div_div_eq_div_mul,← hp]
  omega
theorem bl_le (k : Nat) : ∀ v : Nat,v < 2 ^ k→bl v ≤ k:=by
 induction k with
 | zero =>
  intro v h; have : v = 0:=by simp at h; exact h
  subst this; rw [bl_zero]; omega
 | succ k ih =>
  intro v h
  by_cases hv : v = 0
  ·subst hv; rw [bl_zero]; omega
  ·rw [bl_pos (by omega)]
   have hp : 2 ^ (k + 1) = 2 * 2 ^ k:=by rw [Nat.pow_succ,Nat.mul_comm]
   have:=ih (v / 2) (by omega)
   omega
/-- The bytes of a number of any length. -/
def pvar (v : Nat) : List Int:=if h : v < 128 then [(v : Int)] else ((v % 128 + 128 : Nat) : Int) :: pvar (v / 128)
termination_by v
decreasing_by omega
theorem pvar_lt {v : Nat} (h : v < 128) : pvar v = [(v : Int)]:=by unfold pvar; rw [dif_pos h]
theorem pvar_ge {v : Nat} (h : ¬ v < 128) : pvar v = ((v % 128 + 128 : Nat) : Int) :: pvar (v / 128):=by
 conv=>lhs; unfold pvar
 rw [dif_neg h]
theorem pvar_len (v : Nat) : (pvar v).length = max 1 ((bl v + 6) / 7):=by
 induction v using Nat.strongRecOn with
 | _ v ih =>
  by_cases h : v < 128
  ·rw [pvar_lt h]
   have:=bl_le 7 v h
   simp
   omega
  ·rw [pvar_ge h,List.length_cons,ih (v / 128) (by omega),bl_shift 7 v (by omega)]
   have : 1 ≤ bl (v / 2 ^ 7):=by
    rw [bl_pos (by omega)]; omega
   show max 1 ((bl (v / 128) + 6) / 7) + 1 = _
   have e : v / 2 ^ 7 = v / 128:=by simp
   rw [e] at this ⊢
   omega
end Go.Proofs.Ev
