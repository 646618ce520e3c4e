/- The document's answer for the octet's package. -/
import Derived.Test.YtghelamfaaakcaaGreatSzBs
import Derived.Test.YtghelamfaaakcaaGreatSzT2
set_option linter.unusedVariables false
set_option linter.unusedSimpArgs false
set_option maxRecDepth 100000
namespace Go.Proofs.YtghelamfaaakcaaGreat.Sh
open Go Go.RowKit Go.Proofs.Ev
theorem nilCQ {b o : Nat} : pNilCheck Tryz.prog (.pointer (some ⟨b, o, none⟩)) = some (.pointer (some ⟨b, o, none⟩)) := rfl
theorem bzRa : type_of% (And.intro @ld3 (And.intro @ld5 (And.intro @ld60 (And.intro @ld33 (And.intro @ld128 (And.intro @fa128_0 (And.intro (fun a h => conv_int (a := a) (h := h) u5 u60) (And.intro (fun a h => conv_int (a := a) (h := h) u60 u5) (And.intro (fun a h => conv_int (a := a) (h := h) u3 u109) (And.intro (fun a h => conv_int (a := a) (h := h) u109 u3) (And.intro @nilCQ (And.intro @ex2_0 (@ex2_1))))))))))))) := And.intro @ld3 (And.intro @ld5 (And.intro @ld60 (And.intro @ld33 (And.intro @ld128 (And.intro @fa128_0 (And.intro (fun a h => conv_int (a := a) (h := h) u5 u60) (And.intro (fun a h => conv_int (a := a) (h := h) u60 u5) (And.intro (fun a h => conv_int (a := a) (h := h) u3 u109) (And.intro (fun a h => conv_int (a := a) (h := h) u109 u3) (And.intro @nilCQ (And.intro @ex2_0 (@ex2_1))))))))))))
/-! ### Put, of any length and of eight bytes -/
theorem f32_loop {β : Type} {k : Nat} {Q : β → Prop} {n0 : Nat} {h0 : AH} {L : List (Nat × AO)} {O : List OS} {ke0 : Value → Value → Value → AH → Option β} (n : Nat) :
    ∀ {j x : Nat} {h : AH} {v : Value} {l : List Nat}, (pvarN x).length ≤ n → n ≤ j → x < 18446744073709551616 → l.length + (pvarN x).length ≤ 2 ^ 30 → Stt Tryz.prog n0 h0 h L ((v, 1, u8rows l) :: O) →
      (∀ h' v' (y : Nat) l' b, y < 128 → l' ++ [y] = l ++ pvarN x → Stt Tryz.prog n0 h0 h' L ((v', 1, u8rows l') :: O) → Tl (ke0 v' (.int .u64 (y : Int)) b h') Q) →
      Tl (F32_llr (eInv env k) k j v (.int .u64 (x : Int)) h ke0) Q := by
  induction n with
  | zero =>
    intro j x h v l hn hj hx hl S hk
    have : 1 ≤ (pvarN x).length := by
      by_cases q : x < 128
      · rw [pvarN_lt q]; simp
      · rw [pvarN_ge q]; simp
    omega
  | succ n ih =>
    intro j x h v l hn hj hx hl S hk
    obtain ⟨j, rfl⟩ : ∃ q, j = q + 1 := ⟨j - 1, by omega⟩
    simp only [F32_llr]
    by_cases q : x < 128
    · repeat (first | (with_reducible apply qzV; simp (disch := omega) only [coreA, Int.reduceBEq, bzRa] <;> with_reducible rfl) | (with_reducible first | apply qzT | apply qzF | apply qzG | apply qzH) | ((with_reducible first | apply qzB | apply qzC | apply qzD); simp (disch := omega) only [coreA, Int.reduceBEq, bzRa] <;> with_reducible rfl))
      exact hk _ _ x l _ q (by rw [pvarN_lt q]) S
    · have w8 : IntKind.u8.wrap ((x : Nat) : Int) = ((x % 256 : Nat) : Int) := by rw [wrap_u8]; omega
      have o8 := or_128 (x % 256) (by omega)
      have e1 : x % 256 % 128 = x % 128 := by omega
      rw [e1] at o8
      have sh : ∀ t a b, pBin Tryz.prog Go.BinOp.shr t a b (.int .u64 (x : Int)) (.int .u64 7) = some (.int .u64 ((x / 128 : Nat) : Int)) := fun t a b => by
        rw [shr_nn (by decide)]
        have e : (x : Int).fdiv (2 ^ (min (7 : Int).toNat IntKind.u64.bits)) = ((x / 128 : Nat) : Int) := by
          have h2 : min (7 : Int).toNat IntKind.u64.bits = 7 := by decide
          rw [h2, Int.fdiv_eq_ediv_of_nonneg _ (by decide)]
          have : (2 : Int) ^ 7 = 128 := by decide
          rw [this]; omega
        rw [e]
      rw [pvarN_ge q] at hn hl hk
      simp only [List.length_cons] at hn hl
      have or8' : ∀ t a b, pBin Tryz.prog Go.BinOp.or t a b (.int .u8 ((x % 256 : Nat) : Int)) (.int .u8 128) = some (.int .u8 ((x % 128 + 128 : Nat) : Int)) := fun t a b => by
        rw [bin_or]; exact congrArg some (congrArg _ o8)
      repeat (first | (with_reducible apply qzV; simp (disch := omega) only [coreA, Int.reduceBEq, bzRa, w8, or8'] <;> with_reducible rfl) | (with_reducible first | apply qzT | apply qzF | apply qzG | apply qzH) | ((with_reducible first | apply qzB | apply qzC | apply qzD); simp (disch := omega) only [coreA, Int.reduceBEq, bzRa, w8, or8'] <;> with_reducible rfl))
      refine Tl.push S 0 rfl app33 (bs33 _ _) rfl rfl (by rw [u8rows_len]; omega) fun v' h' S' => ?_
      repeat (first | (with_reducible apply qzV; simp (disch := omega) only [coreA, Int.reduceBEq, bzRa, sh] <;> with_reducible rfl) | (with_reducible first | apply qzT | apply qzF | apply qzG | apply qzH) | ((with_reducible first | apply qzB | apply qzC | apply qzD); simp (disch := omega) only [coreA, Int.reduceBEq, bzRa, sh] <;> with_reducible rfl))
      refine ih (l := l ++ [x % 128 + 128]) (by omega) (by omega) (by omega) (by simp; omega) (by simpa [u8rows, u8v] using S') fun h'' v'' y l'' b hy hl'' S'' => hk h'' v'' y l'' b hy (by rw [hl'']; simp) S''
theorem f32c {k : Nat} {n0 : Nat} {h0 h : AH} {L : List (Nat × AO)} {O : List OS} {v : Value} {l : List Nat} (x : Nat) (hx : x < 18446744073709551616) (hl : l.length ≤ 2 ^ 29) (S : Stt Tryz.prog n0 h0 h L ((v, 1, u8rows l) :: O)) :
    Tl (eInv env (k + 20) (.func 32) #[] #[v, .int .u64 (x : Int)] h) fun r => Stt Tryz.prog n0 h0 r.2 L ((r.1, 1, u8rows (l ++ pvarN x)) :: O) := by
  rw [F32_call]
  unfold F32
  have h10 := pvarN_le10 hx
  refine f32_loop (k := k + 19) 10 h10 (by omega) hx (by omega) S fun h' v' y l' b hy he S' => ?_
  have w8 : IntKind.u8.wrap ((y : Nat) : Int) = ((y : Nat) : Int) := by rw [wrap_u8]; omega
  have hle : l'.length + 1 = l.length + (pvarN x).length := by
    have := congrArg List.length he
    simpa using this
  repeat (first | (with_reducible apply qzV; simp (disch := omega) only [coreA, Int.reduceBEq, bzRa, w8] <;> with_reducible rfl) | (with_reducible first | apply qzT | apply qzF | apply qzG | apply qzH) | ((with_reducible first | apply qzB | apply qzC | apply qzD); simp (disch := omega) only [coreA, Int.reduceBEq, bzRa, w8] <;> with_reducible rfl))
  refine Tl.push S' 0 rfl app33 (bs33 _ _) rfl rfl (by rw [u8rows_len]; omega) fun v'' h'' S'' => ?_
  repeat (first | (with_reducible apply qzV; simp (disch := omega) only [coreA, Int.reduceBEq, bzRa] <;> with_reducible rfl) | (with_reducible first | apply qzT | apply qzF | apply qzG | apply qzH) | ((with_reducible first | apply qzB | apply qzC | apply qzD); simp (disch := omega) only [coreA, Int.reduceBEq, bzRa] <;> with_reducible rfl))
  refine ⟨_, rfl, ?_⟩
  rw [← he]
  simpa [u8rows, u8v] using S''

/-! ### A reader -/
section
variable {n0 : Nat} {h0 h : AH} {L : List (Nat × AO)} {O : List OS} {i br : Nat} {rv : Value} {rest : List Nat}
end
end Go.Proofs.YtghelamfaaakcaaGreat.Sh
