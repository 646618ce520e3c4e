/- What 'zone.one' and 'zone.Join' come to. -/
import Derived.Test.YtghelamfaaakcaaGreatSzZa
import Derived.Test.YtghelamfaaakcaaGreatZoneMath
set_option linter.unusedVariables false
set_option linter.unusedSimpArgs false
set_option maxRecDepth 100000
namespace Go.Proofs.YtghelamfaaakcaaGreat.Sh
open Go Go.RowKit Go.Proofs.Ev Go.Lib
theorem bzZb : type_of% (And.intro @ld3 (And.intro @ld2 (And.intro @ld9 (And.intro @ld31 (And.intro @ld38 (And.intro @fa31_0 (And.intro @fa31_1 (And.intro @fa31_2 (And.intro @fa38_0 (And.intro @fa38_1 (And.intro @fa38_2 (And.intro @fa38_3 (@Nat.add_zero))))))))))))) := And.intro @ld3 (And.intro @ld2 (And.intro @ld9 (And.intro @ld31 (And.intro @ld38 (And.intro @fa31_0 (And.intro @fa31_1 (And.intro @fa31_2 (And.intro @fa38_0 (And.intro @fa38_1 (And.intro @fa38_2 (And.intro @fa38_3 (@Nat.add_zero))))))))))))
def zl (z : ZoneD) : List Value := [.int .i64 z.cnt, .int .i64 z.nul, .int .i64 z.mn.k, .int .i64 z.mn.i, .string z.mn.s, .int .i64 z.mx.k, .int .i64 z.mx.i, .string z.mx.s]
def zv (z : ZoneD) : Value := .agg (zl z).toArray
def Zr (b : Nat) (z : ZoneD) : Nat × AO := (b, .cells (zl z) 38 true)
def Cr (b : Nat) (c : CellD) : Nat × AO := (b, .cells (crow c) 31 true)
theorem aggC (c : CellD) : Value.agg (crow c).toArray = c.v := rfl
theorem aggZ (z : ZoneD) : Value.agg (zl z).toArray = zv z := rfl
theorem sameC (c : CellD) : sameV c.v c.v = true := by simp [CellD.v, sameV, sameList, same0, beqB]
theorem sameZ (z : ZoneD) : sameV (zv z) (zv z) = true := by simp [zv, zl, sameV, sameList, same0, beqB]
def z0 : ZoneD := ⟨0, 0, c0, c0⟩
theorem isC : (szT Tryz.prog 31).isSome = true := by rw [sz31]; rfl
theorem isZ : (szT Tryz.prog 38).isSome = true := by rw [sz38]; rfl
theorem bdZa : pBuild Tryz.prog 38 #[(0, .int .i64 1), (1, .int .i64 1)] = some (zv ⟨1, 1, c0, c0⟩) := by kernel_rfl
theorem bdZb (c : CellD) : pBuild Tryz.prog 38 #[(0, .int .i64 1), (2, c.v), (3, c.v)] = some (zv ⟨1, 0, c, c⟩) := by kernel_rfl
theorem bdZc (p q : Int) (c d : CellD) : pBuild Tryz.prog 38 #[(0, .int .i64 p), (1, .int .i64 q), (2, c.v), (3, d.v)] = some (zv ⟨p, q, c, d⟩) := by kernel_rfl
section
variable {n0 : Nat} {h0 h : AH} {L : List (Nat × AO)} {O : List OS}
structure Zat (h : AH) (b : Nat) (z : ZoneD) : Prop where
  all : h.row b 0 8 = some (zl z)
  cnt : h.cell b 0 = some (.int .i64 z.cnt)
  nul : h.cell b 1 = some (.int .i64 z.nul)
  mn : h.row b 2 3 = some (crow z.mn)
  mx : h.row b 5 3 = some (crow z.mx)
  mnk : h.cell b 2 = some (.int .i64 z.mn.k)
  mxk : h.cell b 5 = some (.int .i64 z.mx.k)
theorem z_at {b : Nat} {z : ZoneD} (S : Stt Tryz.prog n0 h0 h L O) (i : Nat) (hi : L[i]? = some (Zr b z)) : Zat h b z := by
  have := S.sta.mem.at_ hi
  exact ⟨(row_of this).trans rfl, (cell_of this).trans rfl, (cell_of this).trans rfl, (row_of this).trans rfl, (row_of this).trans rfl, (cell_of this).trans rfl, (cell_of this).trans rfl⟩
theorem c_at {b : Nat} {c : CellD} (S : Stt Tryz.prog n0 h0 h L O) (i : Nat) (hi : L[i]? = some (Cr b c)) : h.row b 0 3 = some (crow c) ∧ h.cell b 0 = some (.int .i64 c.k) ∧ h.cell b 1 = some (.int .i64 c.i) ∧ h.cell b 2 = some (.string c.s) := by
  have := S.sta.mem.at_ hi
  exact ⟨(row_of this).trans rfl, (cell_of this).trans rfl, (cell_of this).trans rfl, (cell_of this).trans rfl⟩
/-- 'one'. -/
theorem f52c {k : Nat} (c : CellD) (h : AH) : Tl (eInv env (k + 1) (.func 52) #[] #[c.v] h) fun r => r.1 = zv (oneZ c) ∧ Grow h r.2 := by
  rw [F52_call]
  unfold F52
  refine Tl.box' (Stt.init h) rfl isC fun b1 h1 S1 _ => ?_
  refine Tl.alloc' S1 ze38 rfl fun b2 h2 S2 _ => ?_
  have S2 : Stt Tryz.prog h.n h h2 [Zr b2 z0, Cr b1 c] [] := S2
  obtain ⟨r1, k1, _, _⟩ := c_at S2 1 rfl
  unfold oneZ
  by_cases e : c.k = 0
  · rw [if_pos e]
    repeat (first | (with_reducible apply qzV; simp (disch := omega) only [coreA, Int.reduceBEq, bzZb, k1, bdZa] <;> with_reducible rfl) | (with_reducible first | apply qzT | apply qzF | apply qzG | apply qzH) | ((with_reducible first | apply qzB | apply qzC | apply qzD); simp (disch := omega) only [coreA, Int.reduceBEq, bzZb, k1, bdZa] <;> with_reducible rfl))
    refine Tl.store' S2 0 rfl sz38 rfl rfl (by decide) fun h3 S3 _ => ?_
    have S3 : Stt Tryz.prog h.n h h3 [Zr b2 ⟨1, 1, c0, c0⟩, Cr b1 c] [] := S3
    have q := (z_at S3 0 rfl).all
    repeat (first | (with_reducible apply qzV; simp (disch := omega) only [coreA, Int.reduceBEq, bzZb, q, aggZ] <;> with_reducible rfl) | (with_reducible first | apply qzT | apply qzF | apply qzG | apply qzH) | ((with_reducible first | apply qzB | apply qzC | apply qzD); simp (disch := omega) only [coreA, Int.reduceBEq, bzZb, q, aggZ] <;> with_reducible rfl))
    exact ⟨_, rfl, rfl, S3.grow⟩
  · rw [if_neg e]
    repeat (first | (with_reducible apply qzV; simp (disch := omega) only [coreA, Int.reduceBEq, bzZb, k1, r1, aggC, bdZb] <;> with_reducible rfl) | (with_reducible first | apply qzT | apply qzF | apply qzG | apply qzH) | ((with_reducible first | apply qzB | apply qzC | apply qzD); simp (disch := omega) only [coreA, Int.reduceBEq, bzZb, k1, r1, aggC, bdZb] <;> with_reducible rfl))
    refine Tl.store' S2 0 rfl sz38 rfl rfl (by decide) fun h3 S3 _ => ?_
    have S3 : Stt Tryz.prog h.n h h3 [Zr b2 ⟨1, 0, c, c⟩, Cr b1 c] [] := S3
    have q := (z_at S3 0 rfl).all
    repeat (first | (with_reducible apply qzV; simp (disch := omega) only [coreA, Int.reduceBEq, bzZb, q, aggZ] <;> with_reducible rfl) | (with_reducible first | apply qzT | apply qzF | apply qzG | apply qzH) | ((with_reducible first | apply qzB | apply qzC | apply qzD); simp (disch := omega) only [coreA, Int.reduceBEq, bzZb, q, aggZ] <;> with_reducible rfl))
    exact ⟨_, rfl, rfl, S3.grow⟩
end
end Go.Proofs.YtghelamfaaakcaaGreat.Sh
