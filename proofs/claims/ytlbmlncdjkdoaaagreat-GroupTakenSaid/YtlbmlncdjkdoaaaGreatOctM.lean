/- Numbers of any length as bytes; no program in sight. -/
import Derived.Test.YtlbmlncdjkdoaaaGreatBits
set_option linter.unusedVariables false
set_option linter.unusedSimpArgs false
namespace Go.Proofs.Ev
open Go Go.RowKit
theorem or_128 (m : Nat) (hm : m < 256) : IntKind.u8.wrap (BitVec.ofInt 8 (m : Int) ||| BitVec.ofInt 8 128).toNat = ((m % 128 + 128 : Nat) : Int):=by
 have : ∀ m : Fin 256,IntKind.u8.wrap (BitVec.ofInt 8 (m.val : Int) ||| BitVec.ofInt 8 128).toNat = ((m.val % 128 + 128 : Nat) : Int):=by decide +kernel
 exact this ⟨m,hm⟩
theorem pvar_le10 {n : Nat} (h : n < 18446744073709551616) : (pvar n).length ≤ 10:=by
 rw [pvar_len]
 have:=bl_le 64 n (by simpa using h)
 omega
def ints (l : List Nat) : List Int:=l.map (fun (x : Nat)=>(x : Int))
def ofB (l : List Nat) : Nat:=l.foldr (fun x a=>a * 256 + x) 0
theorem or_nat (a b : Nat) (ha : a < 18446744073709551616) (hb : b < 18446744073709551616) : IntKind.u64.wrap (BitVec.ofInt 64 (a : Int) ||| BitVec.ofInt 64 (b : Int)).toNat = ((a ||| b : Nat) : Int):=by
 rw [BitVec.toNat_or,ofInt_toNat _ (by omega) (by omega),ofInt_toNat _ (by omega) (by omega),Int.toNat_natCast,Int.toNat_natCast]
 have : a ||| b < 2 ^ 64:=Nat.or_lt_two_pow (by simpa using ha) (by simpa using hb)
 rw [wrap_u64]
 have h2 : (2 : Nat) ^ 64 = 18446744073709551616:=by decide
 omega
/-- What a number of any length says. -/
def dec : Nat→Nat→List Nat→Option (Nat × List Nat)
 | _,_,[]=>none
 | i,acc,c :: rest=>if i = 10 then none else if i = 9 ∧ c % 128 > 1 then none else
   if c ≥ 128 then dec (i + 1) (acc + c % 128 * 2 ^ (7 * i)) rest else if c % 128 = 0 ∧ i > 0 then none else some (acc + c % 128 * 2 ^ (7 * i),rest)
def le (x : Nat) : Nat→Nat→List Nat
 | _,0=>[]
 | i,r + 1=>x / 2 ^ (8 * i) % 256 :: le x (i + 1) r
theorem le_lt (x : Nat) : ∀ (r i : Nat),∀ y ∈ le x i r,y < 256:=by
 intro r
 induction r with
 | zero=>intro i y hy; cases hy
 | succ r ih =>
  intro i y hy
  rcases List.mem_cons.1 hy with rfl | hy
  ·exact Nat.mod_lt _ (by decide)
  ·exact ih _ y hy
theorem le_len (x : Nat) : ∀ (r i : Nat),(le x i r).length = r:=by
 intro r
 induction r with
 | zero=>intro i; rfl
 | succ r ih=>intro i; simp [le,ih]
theorem ofB_le (x : Nat) : ∀ (r i : Nat),ofB (le x i r) = x / 2 ^ (8 * i) % 256 ^ r:=by
 intro r
 induction r with
 | zero=>intro i; simp [le,ofB,Nat.mod_one]
 | succ r ih =>
  intro i
  have : ofB (le x i (r + 1)) = ofB (le x (i + 1) r) * 256 + x / 2 ^ (8 * i) % 256:=rfl
  rw [this,ih]
  have e : x / 2 ^ (8 * (i + 1)) = x / 2 ^ (8 * i) / 256:=by
   rw [Nat.div_div_eq_div_mul,Nat.mul_succ,Nat.pow_add]
  rw [e,Nat.pow_succ,Nat.mul_comm (256 ^ r) 256,Nat.mod_mul]
  omega
def pvarN (v : Nat) : List Nat:=(pvar v).map Int.toNat
theorem pvarN_lt {v : Nat} (h : v < 128) : pvarN v = [v]:=by unfold pvarN; rw [pvar_lt h]; simp
theorem pvarN_ge {v : Nat} (h : ¬ v < 128) : pvarN v = (v % 128 + 128) :: pvarN (v / 128):=by
 unfold pvarN; rw [pvar_ge h]; simp only [List.map_cons,Int.toNat_natCast]
theorem ints_pvarN (v : Nat) : ints (pvarN v) = pvar v:=by
 induction v using Nat.strongRecOn with
 | _ v ih =>
  by_cases h : v < 128
  ·rw [pvarN_lt h,pvar_lt h]; rfl
  ·rw [pvarN_ge h,pvar_ge h,← ih (v / 128) (by omega)]; rfl
theorem pvarN_256 (v : Nat) : ∀ y ∈ pvarN v,y < 256:=by
 induction v using Nat.strongRecOn with
 | _ v ih =>
  by_cases h : v < 128
  ·rw [pvarN_lt h]; intro y hy; simp at hy; omega
  ·rw [pvarN_ge h]
   intro y hy
   rcases List.mem_cons.1 hy with rfl | hy
   ·omega
   ·exact ih (v / 128) (by omega) y hy
theorem dec_pvar (rest : List Nat) (v : Nat) : ∀ {i acc : Nat},(i = 0 ∨ 0 < v)→v * 2 ^ (7 * i) < 18446744073709551616→dec i acc (pvarN v ++ rest) = some (acc + v * 2 ^ (7 * i),rest):=by
 induction v using Nat.strongRecOn with
 | _ v ih =>
  intro i acc hi hv
  have hi9 : i ≤ 9:=by
   rcases hi with rfl | hi
   ·omega
   ·by_cases q : i ≤ 9
    ·exact q
    ·have h1 : 2 ^ 70 ≤ 2 ^ (7 * i):=Nat.pow_le_pow_right (by decide) (by omega)
     have h2 : (2 : Nat) ^ 70 = 1180591620717411303424:=by decide
     have h3 : 1 * 2 ^ (7 * i) ≤ v * 2 ^ (7 * i):=Nat.mul_le_mul_right _ hi
     omega
  by_cases h : v < 128
  ·rw [pvarN_lt h,List.singleton_append,dec,if_neg (by omega),if_neg,if_neg (by omega),if_neg]
   ·rw [Nat.mod_eq_of_lt h]
   ·rw [Nat.mod_eq_of_lt h]; omega
   ·rw [Nat.mod_eq_of_lt h]
    rintro ⟨rfl,h1⟩
    have h2 : (2 : Nat) ^ (7 * 9) = 9223372036854775808:=by decide
    rw [h2] at hv
    omega
  ·have hi8 : i ≤ 8:=by
    by_cases q : i ≤ 8
    ·exact q
    ·have : i = 9:=by omega
     subst this
     have h2 : (2 : Nat) ^ (7 * 9) = 9223372036854775808:=by decide
     rw [h2] at hv
     omega
   have hp : 2 ^ (7 * (i + 1)) = 128 * 2 ^ (7 * i):=by rw [Nat.mul_succ,Nat.pow_add,Nat.mul_comm]
   have hm : (v % 128 + 128) % 128 = v % 128:=by omega
   have hle : v / 128 * 2 ^ (7 * (i + 1)) ≤ v * 2 ^ (7 * i):=by
    rw [hp,← Nat.mul_assoc]
    exact Nat.mul_le_mul_right _ (Nat.div_mul_le_self v 128)
   rw [pvarN_ge h,List.cons_append,dec,if_neg (by omega),if_neg (by omega),if_pos (by omega),ih (v / 128) (by omega) (.inr (by omega)) (by omega),hm]
   congr 2
   rw [hp,Nat.add_assoc]
   congr 1
   rw [← Nat.mul_assoc,← Nat.add_mul]
   congr 1
   omega
theorem pvarN_le10 {n : Nat} (h : n < 18446744073709551616) : (pvarN n).length ≤ 10:=by
 have:=pvar_le10 h
 rw [← ints_pvarN] at this
 simpa [ints] using this
end Go.Proofs.Ev
