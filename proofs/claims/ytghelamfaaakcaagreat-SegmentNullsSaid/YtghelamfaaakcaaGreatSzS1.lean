/- Codecs: what they are made of. -/
import Derived.Test.YtghelamfaaakcaaGreatSzZc
import Derived.Test.YtghelamfaaakcaaGreatSzZd
import Derived.Test.YtghelamfaaakcaaGreatSzOc
set_option linter.unusedVariables false
set_option linter.unusedSimpArgs false
set_option maxRecDepth 100000
namespace Go.Proofs.YtghelamfaaakcaaGreat.Sh
open Go Go.RowKit Go.Proofs.Ev Go.Lib
theorem bzS1 : type_of% (And.intro @ld3 (And.intro @ld2 (And.intro @ld9 (And.intro @ld60 (And.intro @ld31 (And.intro @fa31_0 (And.intro @fa31_1 (And.intro @fa31_2 (And.intro (fun a h => conv_int (a := a) (h := h) u2 u60) (And.intro (fun a h => conv_int (a := a) (h := h) u60 u2) (And.intro (fun a h => conv_int (a := a) (h := h) u60 u5) (And.intro (fun a h => conv_int (a := a) (h := h) u3 u60) (And.intro @aggC (@Nat.add_zero)))))))))))))) := And.intro @ld3 (And.intro @ld2 (And.intro @ld9 (And.intro @ld60 (And.intro @ld31 (And.intro @fa31_0 (And.intro @fa31_1 (And.intro @fa31_2 (And.intro (fun a h => conv_int (a := a) (h := h) u2 u60) (And.intro (fun a h => conv_int (a := a) (h := h) u60 u2) (And.intro (fun a h => conv_int (a := a) (h := h) u60 u5) (And.intro (fun a h => conv_int (a := a) (h := h) u3 u60) (And.intro @aggC (@Nat.add_zero)))))))))))))
def fnV1 (f : Nat) : Value := .func (.func f) #[] #[]
def codNL : List Value := [fnV1 72, fnV1 73, fnV1 74, fnV1 76, fnV1 78, fnV1 79]
def codTL : List Value := [fnV1 81, fnV1 82, fnV1 83, fnV1 84, fnV1 85, fnV1 86]
def codWL : List Value := [fnV1 88, fnV1 89, fnV1 90, fnV1 91, fnV1 93, fnV1 94]
/-- A kind's codec. -/
def codV (kind : Int) : Value := if kind = 1 then .iface 86 (.agg codNL.toArray) else if kind = 2 then .iface 94 (.agg codTL.toArray) else if kind = 3 then .iface 103 (.agg codWL.toArray) else .nilIface
theorem bdN : pBuild Tryz.prog 86 #[(0, (.func (.func 72) #[] #[])), (1, (.func (.func 73) #[] #[])), (2, (.func (.func 74) #[] #[])), (3, (.func (.func 76) #[] #[])), (4, (.func (.func 78) #[] #[])), (5, (.func (.func 79) #[] #[]))] = some (.agg codNL.toArray) := by kernel_rfl
theorem bdT : pBuild Tryz.prog 94 #[(0, (.func (.func 81) #[] #[])), (1, (.func (.func 82) #[] #[])), (2, (.func (.func 83) #[] #[])), (3, (.func (.func 84) #[] #[])), (4, (.func (.func 85) #[] #[])), (5, (.func (.func 86) #[] #[]))] = some (.agg codTL.toArray) := by kernel_rfl
theorem bdW : pBuild Tryz.prog 103 #[(0, (.func (.func 88) #[] #[])), (1, (.func (.func 89) #[] #[])), (2, (.func (.func 90) #[] #[])), (3, (.func (.func 91) #[] #[])), (4, (.func (.func 93) #[] #[])), (5, (.func (.func 94) #[] #[]))] = some (.agg codWL.toArray) := by kernel_rfl
theorem miN : pMakeIface Tryz.prog 86 (.agg codNL.toArray) = some (.iface 86 (.agg codNL.toArray)) := by kernel_rfl
theorem miT : pMakeIface Tryz.prog 94 (.agg codTL.toArray) = some (.iface 94 (.agg codTL.toArray)) := by kernel_rfl
theorem miW : pMakeIface Tryz.prog 103 (.agg codWL.toArray) = some (.iface 103 (.agg codWL.toArray)) := by kernel_rfl
theorem f44c {k : Nat} (h : AH) : Tl (eInv env (k + 1) (.func 44) #[] #[] h) fun r => r.1 = .agg codNL.toArray ∧ Grow h r.2 := by
  rw [F44_call]
  unfold F44
  refine Tl.alloc' (Stt.init h) ze86 rfl fun b1 h1 S1 _ => ?_
  repeat (first | (with_reducible apply qzV; simp (disch := omega) only [coreA, Int.reduceBEq, bzS1, bdN] <;> with_reducible rfl) | (with_reducible first | apply qzT | apply qzF | apply qzG | apply qzH) | ((with_reducible first | apply qzB | apply qzC | apply qzD); simp (disch := omega) only [coreA, Int.reduceBEq, bzS1, bdN] <;> with_reducible rfl))
  refine Tl.store' S1 0 rfl sz86 rfl rfl (of_decide_eq_true rfl) fun h2 S2 _ => ?_
  have S2 : Stt Tryz.prog h.n h h2 [(b1, .cells codNL 86 true)] [] := S2
  have r := S2.row (n := 6) 0 rfl rfl
  repeat (first | (with_reducible apply qzV; simp (disch := omega) only [coreA, Int.reduceBEq, bzS1, ld86, r] <;> with_reducible rfl) | (with_reducible first | apply qzT | apply qzF | apply qzG | apply qzH) | ((with_reducible first | apply qzB | apply qzC | apply qzD); simp (disch := omega) only [coreA, Int.reduceBEq, bzS1, ld86, r] <;> with_reducible rfl))
  exact ⟨_, rfl, rfl, S2.grow⟩
theorem f45c {k : Nat} (h : AH) : Tl (eInv env (k + 1) (.func 45) #[] #[] h) fun r => r.1 = .agg codTL.toArray ∧ Grow h r.2 := by
  rw [F45_call]
  unfold F45
  refine Tl.alloc' (Stt.init h) ze94 rfl fun b1 h1 S1 _ => ?_
  repeat (first | (with_reducible apply qzV; simp (disch := omega) only [coreA, Int.reduceBEq, bzS1, bdT] <;> with_reducible rfl) | (with_reducible first | apply qzT | apply qzF | apply qzG | apply qzH) | ((with_reducible first | apply qzB | apply qzC | apply qzD); simp (disch := omega) only [coreA, Int.reduceBEq, bzS1, bdT] <;> with_reducible rfl))
  refine Tl.store' S1 0 rfl sz94 rfl rfl (of_decide_eq_true rfl) fun h2 S2 _ => ?_
  have S2 : Stt Tryz.prog h.n h h2 [(b1, .cells codTL 94 true)] [] := S2
  have r := S2.row (n := 6) 0 rfl rfl
  repeat (first | (with_reducible apply qzV; simp (disch := omega) only [coreA, Int.reduceBEq, bzS1, ld94, r] <;> with_reducible rfl) | (with_reducible first | apply qzT | apply qzF | apply qzG | apply qzH) | ((with_reducible first | apply qzB | apply qzC | apply qzD); simp (disch := omega) only [coreA, Int.reduceBEq, bzS1, ld94, r] <;> with_reducible rfl))
  exact ⟨_, rfl, rfl, S2.grow⟩
theorem f46c {k : Nat} (h : AH) : Tl (eInv env (k + 1) (.func 46) #[] #[] h) fun r => r.1 = .agg codWL.toArray ∧ Grow h r.2 := by
  rw [F46_call]
  unfold F46
  refine Tl.alloc' (Stt.init h) ze103 rfl fun b1 h1 S1 _ => ?_
  repeat (first | (with_reducible apply qzV; simp (disch := omega) only [coreA, Int.reduceBEq, bzS1, bdW] <;> with_reducible rfl) | (with_reducible first | apply qzT | apply qzF | apply qzG | apply qzH) | ((with_reducible first | apply qzB | apply qzC | apply qzD); simp (disch := omega) only [coreA, Int.reduceBEq, bzS1, bdW] <;> with_reducible rfl))
  refine Tl.store' S1 0 rfl sz103 rfl rfl (of_decide_eq_true rfl) fun h2 S2 _ => ?_
  have S2 : Stt Tryz.prog h.n h h2 [(b1, .cells codWL 103 true)] [] := S2
  have r := S2.row (n := 6) 0 rfl rfl
  repeat (first | (with_reducible apply qzV; simp (disch := omega) only [coreA, Int.reduceBEq, bzS1, ld103, r] <;> with_reducible rfl) | (with_reducible first | apply qzT | apply qzF | apply qzG | apply qzH) | ((with_reducible first | apply qzB | apply qzC | apply qzD); simp (disch := omega) only [coreA, Int.reduceBEq, bzS1, ld103, r] <;> with_reducible rfl))
  exact ⟨_, rfl, rfl, S2.grow⟩
/-- 'of'. -/
theorem f28c {k : Nat} (kind : Int) (h : AH) : Tl (eInv env (k + 2) (.func 28) #[] #[.int .i64 kind] h) fun r => r.1 = codV kind ∧ Grow h r.2 := by
  rw [F28_call]
  unfold F28 codV
  by_cases p1 : kind = 1
  · rw [if_pos p1]
    repeat (first | (with_reducible apply qzV; simp (disch := omega) only [coreA, Int.reduceBEq, bzS1] <;> with_reducible rfl) | (with_reducible first | apply qzT | apply qzF | apply qzG | apply qzH) | ((with_reducible first | apply qzB | apply qzC | apply qzD); simp (disch := omega) only [coreA, Int.reduceBEq, bzS1] <;> with_reducible rfl))
    with_reducible refine Tl.call' (Stt.init (P := Tryz.prog) h) (f44c (k := k) h) fun h1 S1 _ => ?_
    repeat (first | (with_reducible apply qzV; simp (disch := omega) only [coreA, Int.reduceBEq, bzS1, miN] <;> with_reducible rfl) | (with_reducible first | apply qzT | apply qzF | apply qzG | apply qzH) | ((with_reducible first | apply qzB | apply qzC | apply qzD); simp (disch := omega) only [coreA, Int.reduceBEq, bzS1, miN] <;> with_reducible rfl))
    exact ⟨_, rfl, rfl, S1.grow⟩
  rw [if_neg p1]
  by_cases p2 : kind = 2
  · rw [if_pos p2]
    repeat (first | (with_reducible apply qzV; simp (disch := omega) only [coreA, Int.reduceBEq, bzS1] <;> with_reducible rfl) | (with_reducible first | apply qzT | apply qzF | apply qzG | apply qzH) | ((with_reducible first | apply qzB | apply qzC | apply qzD); simp (disch := omega) only [coreA, Int.reduceBEq, bzS1] <;> with_reducible rfl))
    with_reducible refine Tl.call' (Stt.init (P := Tryz.prog) h) (f45c (k := k) h) fun h1 S1 _ => ?_
    repeat (first | (with_reducible apply qzV; simp (disch := omega) only [coreA, Int.reduceBEq, bzS1, miT] <;> with_reducible rfl) | (with_reducible first | apply qzT | apply qzF | apply qzG | apply qzH) | ((with_reducible first | apply qzB | apply qzC | apply qzD); simp (disch := omega) only [coreA, Int.reduceBEq, bzS1, miT] <;> with_reducible rfl))
    exact ⟨_, rfl, rfl, S1.grow⟩
  rw [if_neg p2]
  by_cases p3 : kind = 3
  · rw [if_pos p3]
    repeat (first | (with_reducible apply qzV; simp (disch := omega) only [coreA, Int.reduceBEq, bzS1] <;> with_reducible rfl) | (with_reducible first | apply qzT | apply qzF | apply qzG | apply qzH) | ((with_reducible first | apply qzB | apply qzC | apply qzD); simp (disch := omega) only [coreA, Int.reduceBEq, bzS1] <;> with_reducible rfl))
    with_reducible refine Tl.call' (Stt.init (P := Tryz.prog) h) (f46c (k := k) h) fun h1 S1 _ => ?_
    repeat (first | (with_reducible apply qzV; simp (disch := omega) only [coreA, Int.reduceBEq, bzS1, miW] <;> with_reducible rfl) | (with_reducible first | apply qzT | apply qzF | apply qzG | apply qzH) | ((with_reducible first | apply qzB | apply qzC | apply qzD); simp (disch := omega) only [coreA, Int.reduceBEq, bzS1, miW] <;> with_reducible rfl))
    exact ⟨_, rfl, rfl, S1.grow⟩
  rw [if_neg p3]
  repeat (first | (with_reducible apply qzV; simp (disch := omega) only [coreA, Int.reduceBEq, bzS1] <;> with_reducible rfl) | (with_reducible first | apply qzT | apply qzF | apply qzG | apply qzH) | ((with_reducible first | apply qzB | apply qzC | apply qzD); simp (disch := omega) only [coreA, Int.reduceBEq, bzS1] <;> with_reducible rfl))
  exact ⟨_, rfl, rfl, Grow.refl _⟩
end Go.Proofs.YtghelamfaaakcaaGreat.Sh
