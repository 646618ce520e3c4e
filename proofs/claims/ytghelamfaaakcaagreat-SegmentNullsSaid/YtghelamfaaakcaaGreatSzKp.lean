/- A place that is picked: 'Pick'. -/
import Derived.Test.YtghelamfaaakcaaGreatSzF
import Derived.Test.YtghelamfaaakcaaGreatSzT
import Derived.Test.YtghelamfaaakcaaGreatEvC
import Derived.Test.YtghelamfaaakcaaGreatBits
set_option linter.unusedVariables false
set_option linter.unusedSimpArgs false
set_option maxRecDepth 100000
namespace Go.Proofs.YtghelamfaaakcaaGreat.Sh
open Go Go.RowKit Go.Proofs.Ev
theorem f12c {k : Nat} (z : Int) (hz : -9223372036854775808 ≤ z ∧ z ≤ 9223372036854775807) {n : Nat} (h0 : 1 ≤ n) (h1 : n ≤ 9223372036854775807) (h : AH) : ∃ c : Nat, c < n ∧ eInv env (k + 1) (.func 12) #[] #[.int .i64 z, .int .i64 n] h = some (.int .i64 c, h) := by
  have hr : ∀ t x y, pBin Tryz.prog .rem t x y (.int .i64 z) (.int .i64 n) = some (.int .i64 (z.tmod n)) := fun t x y => bin_rem (by omega)
  have b1 : z.tmod n < n := Int.tmod_lt_of_pos z (by omega)
  have b2 : -(n : Int) < z.tmod n := by
    have := Int.neg_tmod z n
    have h2 := Int.tmod_lt_of_pos (-z) (show (0 : Int) < n by omega)
    rw [this] at h2
    omega
  rw [F12_call]
  by_cases q : z.tmod n < 0
  · refine ⟨(z.tmod n + n).toNat, by omega, ?_⟩
    have e : ((z.tmod n + n).toNat : Int) = z.tmod n + n := by omega
    have T : Tl (F12 (eInv env k) k (.int .i64 z) (.int .i64 n) h) fun r => r = (.int .i64 ((z.tmod n + n).toNat : Nat), h) := by
      unfold F12
      repeat (first | (with_reducible apply qzV; simp (disch := omega) only [coreA, Int.reduceBEq, hr, ld3] <;> with_reducible rfl) | (with_reducible first | apply qzT | apply qzF | apply qzG | apply qzH) | ((with_reducible first | apply qzB | apply qzC | apply qzD); simp (disch := omega) only [coreA, Int.reduceBEq, hr, ld3] <;> with_reducible rfl))
      simp only [F12_rlrrr]
      repeat (first | (with_reducible apply qzV; simp (disch := omega) only [coreA, Int.reduceBEq] <;> with_reducible rfl) | (with_reducible first | apply qzT | apply qzF | apply qzG | apply qzH) | ((with_reducible first | apply qzB | apply qzC | apply qzD); simp (disch := omega) only [coreA, Int.reduceBEq] <;> with_reducible rfl))
      exact ⟨_, rfl, by rw [e]⟩
    obtain ⟨r, h1, h2⟩ := T
    rw [h1, h2]
  · refine ⟨(z.tmod n).toNat, by omega, ?_⟩
    have e : ((z.tmod n).toNat : Int) = z.tmod n := by omega
    have T : Tl (F12 (eInv env k) k (.int .i64 z) (.int .i64 n) h) fun r => r = (.int .i64 ((z.tmod n).toNat : Nat), h) := by
      unfold F12
      repeat (first | (with_reducible apply qzV; simp (disch := omega) only [coreA, Int.reduceBEq, hr, ld3] <;> with_reducible rfl) | (with_reducible first | apply qzT | apply qzF | apply qzG | apply qzH) | ((with_reducible first | apply qzB | apply qzC | apply qzD); simp (disch := omega) only [coreA, Int.reduceBEq, hr, ld3] <;> with_reducible rfl))
      simp only [F12_rlrrr]
      repeat (first | (with_reducible apply qzV; simp (disch := omega) only [coreA, Int.reduceBEq] <;> with_reducible rfl) | (with_reducible first | apply qzT | apply qzF | apply qzG | apply qzH) | ((with_reducible first | apply qzB | apply qzC | apply qzD); simp (disch := omega) only [coreA, Int.reduceBEq] <;> with_reducible rfl))
      exact ⟨_, rfl, by rw [e]⟩
    obtain ⟨r, h1, h2⟩ := T
    rw [h1, h2]
end Go.Proofs.YtghelamfaaakcaaGreat.Sh
