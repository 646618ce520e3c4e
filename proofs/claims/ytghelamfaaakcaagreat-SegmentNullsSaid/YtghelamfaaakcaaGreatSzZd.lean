/- What 'zone.Cell' comes to. -/
import Derived.Test.YtghelamfaaakcaaGreatSzZb
set_option linter.unusedVariables false
set_option linter.unusedSimpArgs false
set_option maxRecDepth 100000
namespace Go.Proofs.YtghelamfaaakcaaGreat.Sh
open Go Go.RowKit Go.Proofs.Ev Go.Lib
theorem bzZd : type_of% (And.intro @ld3 (And.intro @ld2 (And.intro @ld9 (And.intro @ld31 (And.intro @fa31_0 (And.intro @fa31_1 (And.intro @fa31_2 (And.intro @aggC (@Nat.add_zero))))))))) := And.intro @ld3 (And.intro @ld2 (And.intro @ld9 (And.intro @ld31 (And.intro @fa31_0 (And.intro @fa31_1 (And.intro @fa31_2 (And.intro @aggC (@Nat.add_zero))))))))
def and1 (i : Int) : Int := IntKind.i64.wrap (BitVec.ofInt 64 i &&& BitVec.ofInt 64 1).toNat
def bare (c : CellD) : CellD := if c.k = 0 then c0 else if c.k = 1 then ⟨c.k, c.i, .empty⟩ else if c.k = 2 then ⟨c.k, and1 c.i, .empty⟩ else ⟨c.k, 0, c.s⟩
def cellE (c : CellD) : Int := if c.s.size > 65536 then 3 else if c.k = 0 ∨ c.k = 1 ∨ c.k = 2 ∨ c.k = 3 then (if bare c = c then 0 else 2) else 2
theorem bdCk (k : Int) : pBuild Tryz.prog 31 #[(0, .int .i64 k)] = some (CellD.v ⟨k, 0, .empty⟩) := by kernel_rfl
theorem f29c {k : Nat} (c : CellD) (h : AH) : Tl (eInv env (k + 1) (.func 29) #[] #[c.v] h) fun r => r.1 = .int .i64 (cellE c) ∧ Grow h r.2 := by
  rw [F29_call]
  unfold F29
  refine Tl.box' (Stt.init h) rfl isC fun b1 h1 S1 _ => ?_
  have S1 : Stt Tryz.prog h.n h h1 [Cr b1 c] [] := S1
  obtain ⟨_, kc, ic, sc⟩ := c_at S1 0 rfl
  have hs : ∀ h' : AH, pLen Tryz.prog #[9] (.string c.s) h' = some (.int .i64 c.s.size) := fun h' => len_string u9
  unfold cellE
  by_cases e0 : c.s.size > 65536
  · rw [if_pos e0]
    repeat (first | (with_reducible apply qzV; simp (disch := omega) only [coreA, Int.reduceBEq, bzZd, sc, hs] <;> with_reducible rfl) | (with_reducible first | apply qzT | apply qzF | apply qzG | apply qzH) | ((with_reducible first | apply qzB | apply qzC | apply qzD); simp (disch := omega) only [coreA, Int.reduceBEq, bzZd, sc, hs] <;> with_reducible rfl))
    exact ⟨_, rfl, rfl, S1.grow⟩
  rw [if_neg e0]
  repeat (first | (with_reducible apply qzV; simp (disch := omega) only [coreA, Int.reduceBEq, bzZd, sc, hs, kc, bdCk] <;> with_reducible rfl) | (with_reducible first | apply qzT | apply qzF | apply qzG | apply qzH) | ((with_reducible first | apply qzB | apply qzC | apply qzD); simp (disch := omega) only [coreA, Int.reduceBEq, bzZd, sc, hs, kc, bdCk] <;> with_reducible rfl))
  refine Tl.alloc' S1 ze31 rfl fun b3 h2 S2 _ => ?_
  refine Tl.store' S2 0 rfl sz31 rfl rfl (of_decide_eq_true rfl) fun h3 S3 _ => ?_
  have S3 : Stt Tryz.prog h.n h h3 [Cr b3 ⟨c.k, 0, .empty⟩, Cr b1 c] [] := S3
  obtain ⟨_, kc3, ic3, sc3⟩ := c_at S3 1 rfl
  have fin : ∀ (d : CellD) (h4 : AH), Stt Tryz.prog h.n h h4 [Cr b3 d, Cr b1 c] [] → bare c = d → (c.k = 0 ∨ c.k = 1 ∨ c.k = 2 ∨ c.k = 3) → Tl (Ev.bnd (pLoad Tryz.prog 31 (.pointer (some ⟨b3, 0, none⟩)) h4) fun x31 => Ev.bnd (pLoad Tryz.prog 31 (.pointer (some ⟨b1, 0, none⟩)) h4) fun x32 =>
      Ev.bnd (pBin Tryz.prog Go.BinOp.neq 31 (Go.Operand.tmp 31) (Go.Operand.tmp 32) x31 x32) fun x33 => brV x33 (some ((Go.Value.int Go.IntKind.i64 2), h4)) (some ((Go.Value.int Go.IntKind.i64 0), h4)))
      fun r => r.1 = .int .i64 (if c.k = 0 ∨ c.k = 1 ∨ c.k = 2 ∨ c.k = 3 then (if bare c = c then 0 else 2) else 2) ∧ Grow h r.2 := by
    intro d h4 S4 hd hk
    rw [if_pos hk, hd]
    obtain ⟨r3, _⟩ := c_at S4 0 rfl
    obtain ⟨r1, _⟩ := c_at S4 1 rfl
    by_cases q : d = c
    · have q' : (decide (d = c)) = true := by simpa using q
      rw [if_pos q]
      repeat (first | (with_reducible apply qzV; simp (disch := omega) only [coreA, Int.reduceBEq, bzZd, r3, r1, neqC, q'] <;> with_reducible rfl) | (with_reducible first | apply qzT | apply qzF | apply qzG | apply qzH) | ((with_reducible first | apply qzB | apply qzC | apply qzD); simp (disch := omega) only [coreA, Int.reduceBEq, bzZd, r3, r1, neqC, q'] <;> with_reducible rfl))
      exact ⟨_, rfl, rfl, S4.grow⟩
    · have q' : (decide (d = c)) = false := by simpa using q
      rw [if_neg q]
      repeat (first | (with_reducible apply qzV; simp (disch := omega) only [coreA, Int.reduceBEq, bzZd, r3, r1, neqC, q'] <;> with_reducible rfl) | (with_reducible first | apply qzT | apply qzF | apply qzG | apply qzH) | ((with_reducible first | apply qzB | apply qzC | apply qzD); simp (disch := omega) only [coreA, Int.reduceBEq, bzZd, r3, r1, neqC, q'] <;> with_reducible rfl))
      exact ⟨_, rfl, rfl, S4.grow⟩
  repeat (first | (with_reducible apply qzV; simp (disch := omega) only [coreA, Int.reduceBEq, bzZd, kc3] <;> with_reducible rfl) | (with_reducible first | apply qzT | apply qzF | apply qzG | apply qzH) | ((with_reducible first | apply qzB | apply qzC | apply qzD); simp (disch := omega) only [coreA, Int.reduceBEq, bzZd, kc3] <;> with_reducible rfl))
  unfold F29_rlrrr
  by_cases p0 : c.k = 0
  · repeat (first | (with_reducible apply qzV; simp (disch := omega) only [coreA, Int.reduceBEq, bzZd] <;> with_reducible rfl) | (with_reducible first | apply qzT | apply qzF | apply qzG | apply qzH) | ((with_reducible first | apply qzB | apply qzC | apply qzD); simp (disch := omega) only [coreA, Int.reduceBEq, bzZd] <;> with_reducible rfl))
    exact fin ⟨c.k, 0, .empty⟩ h3 S3 (by unfold bare; rw [if_pos p0, p0]; rfl) (.inl p0)
  by_cases p1 : c.k = 1
  · repeat (first | (with_reducible apply qzV; simp (disch := omega) only [coreA, Int.reduceBEq, bzZd, ic3] <;> with_reducible rfl) | (with_reducible first | apply qzT | apply qzF | apply qzG | apply qzH) | ((with_reducible first | apply qzB | apply qzC | apply qzD); simp (disch := omega) only [coreA, Int.reduceBEq, bzZd, ic3] <;> with_reducible rfl))
    refine Tl.store' S3 0 rfl sz2 rfl rfl (of_decide_eq_true rfl) fun h4 S4 _ => ?_
    exact fin ⟨c.k, c.i, .empty⟩ h4 S4 (by unfold bare; rw [if_neg p0, if_pos p1]) (.inr (.inl p1))
  by_cases p2 : c.k = 2
  · repeat (first | (with_reducible apply qzV; simp (disch := omega) only [coreA, Int.reduceBEq, bzZd, ic3, bin_and] <;> with_reducible rfl) | (with_reducible first | apply qzT | apply qzF | apply qzG | apply qzH) | ((with_reducible first | apply qzB | apply qzC | apply qzD); simp (disch := omega) only [coreA, Int.reduceBEq, bzZd, ic3, bin_and] <;> with_reducible rfl))
    refine Tl.store' S3 0 rfl sz2 rfl rfl (of_decide_eq_true rfl) fun h4 S4 _ => ?_
    exact fin ⟨c.k, and1 c.i, .empty⟩ h4 S4 (by unfold bare; rw [if_neg p0, if_neg p1, if_pos p2]) (.inr (.inr (.inl p2)))
  by_cases p3 : c.k = 3
  · repeat (first | (with_reducible apply qzV; simp (disch := omega) only [coreA, Int.reduceBEq, bzZd, sc3] <;> with_reducible rfl) | (with_reducible first | apply qzT | apply qzF | apply qzG | apply qzH) | ((with_reducible first | apply qzB | apply qzC | apply qzD); simp (disch := omega) only [coreA, Int.reduceBEq, bzZd, sc3] <;> with_reducible rfl))
    refine Tl.store' S3 0 rfl sz9 rfl rfl (of_decide_eq_true rfl) fun h4 S4 _ => ?_
    exact fin ⟨c.k, 0, c.s⟩ h4 S4 (by unfold bare; rw [if_neg p0, if_neg p1, if_neg p2]) (.inr (.inr (.inr p3)))
  rw [if_neg (fun q => q.elim p0 fun q => q.elim p1 fun q => q.elim p2 p3)]
  repeat (first | (with_reducible apply qzV; simp (disch := omega) only [coreA, Int.reduceBEq, bzZd] <;> with_reducible rfl) | (with_reducible first | apply qzT | apply qzF | apply qzG | apply qzH) | ((with_reducible first | apply qzB | apply qzC | apply qzD); simp (disch := omega) only [coreA, Int.reduceBEq, bzZd] <;> with_reducible rfl))
  exact ⟨_, rfl, rfl, S3.grow⟩
end Go.Proofs.YtghelamfaaakcaaGreat.Sh
