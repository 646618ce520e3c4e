/- Numbers of any length as bytes; no program in sight. -/
import Derived.Test.YtghelamfaaakcaaGreatBits
set_option linter.unusedVariables false
set_option linter.unusedSimpArgs false
namespace Go.Proofs.Ev
open Go Go.RowKit
theorem or_128 (m : Nat) (hm : m < 256) : IntKind.u8.wrap (BitVec.ofInt 8 (m : Int) ||| BitVec.ofInt 8 128).toNat = ((m % 128 + 128 : Nat) : Int) := by
  have : ∀ m : Fin 256, IntKind.u8.wrap (BitVec.ofInt 8 (m.val : Int) ||| BitVec.ofInt 8 128).toNat = ((m.val % 128 + 128 : Nat) : Int) := by decide +kernel
  exact this ⟨m, hm⟩
theorem pvar_le10 {n : Nat} (h : n < 18446744073709551616) : (pvar n).length ≤ 10 := by
  rw [pvar_len]
  have := bl_le 64 n (by simpa using h)
  omega
def ints (l : List Nat) : List Int := l.map (fun (x : Nat) => (x : Int))
theorem or_nat (a b : Nat) (ha : a < 18446744073709551616) (hb : b < 18446744073709551616) : IntKind.u64.wrap (BitVec.ofInt 64 (a : Int) ||| BitVec.ofInt 64 (b : Int)).toNat = ((a ||| b : Nat) : Int) := by
  rw [BitVec.toNat_or, ofInt_toNat _ (by omega) (by omega), ofInt_toNat _ (by omega) (by omega), Int.toNat_natCast, Int.toNat_natCast]
  have : a ||| b < 2 ^ 64 := Nat.or_lt_two_pow (by simpa using ha) (by simpa using hb)
  rw [wrap_u64]
  have h2 : (2 : Nat) ^ 64 = 18446744073709551616 := by decide
  omega
/-- What a number of any length says. -/
def dec : Nat → Nat → List Nat → Option (Nat × List Nat)
  | _, _, [] => none
  | i, acc, c :: rest => if i = 10 then none else if i = 9 ∧ c % 128 > 1 then none else
      if c ≥ 128 then dec (i + 1) (acc + c % 128 * 2 ^ (7 * i)) rest else if c % 128 = 0 ∧ i > 0 then none else some (acc + c % 128 * 2 ^ (7 * i), rest)
def le (x : Nat) : Nat → Nat → List Nat
  | _, 0 => []
  | i, r + 1 => x / 2 ^ (8 * i) % 256 :: le x (i + 1) r
theorem le_len (x : Nat) : ∀ (r i : Nat), (le x i r).length = r := by
  intro r
  induction r with
  | zero => intro i; rfl
  | succ r ih => intro i; simp [le, ih]
def pvarN (v : Nat) : List Nat := (pvar v).map Int.toNat
theorem pvarN_lt {v : Nat} (h : v < 128) : pvarN v = [v] := by unfold pvarN; rw [pvar_lt h]; simp
theorem pvarN_ge {v : Nat} (h : ¬ v < 128) : pvarN v = (v % 128 + 128) :: pvarN (v / 128) := by
  unfold pvarN; rw [pvar_ge h]; simp only [List.map_cons, Int.toNat_natCast]
theorem ints_pvarN (v : Nat) : ints (pvarN v) = pvar v := by
  induction v using Nat.strongRecOn with
  | _ v ih =>
    by_cases h : v < 128
    · rw [pvarN_lt h, pvar_lt h]; rfl
    · rw [pvarN_ge h, pvar_ge h, ← ih (v / 128) (by omega)]; rfl
theorem pvarN_le10 {n : Nat} (h : n < 18446744073709551616) : (pvarN n).length ≤ 10 := by
  have := pvar_le10 h
  rw [← ints_pvarN] at this
  simpa [ints] using this
end Go.Proofs.Ev
