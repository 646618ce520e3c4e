/- What 'zone.Join' and 'zone.Of' come to. -/
import Derived.Test.YtghelamfaaakcaaGreatSzZb
import Derived.Test.YtghelamfaaakcaaGreatSzOc
set_option linter.unusedVariables false
set_option linter.unusedSimpArgs false
set_option maxRecDepth 100000
namespace Go.Proofs.YtghelamfaaakcaaGreat.Sh
open Go Go.RowKit Go.Proofs.Ev Go.Lib
theorem bzZc : type_of% (And.intro @ld3 (And.intro @ld2 (And.intro @ld9 (And.intro @ld31 (And.intro @ld38 (And.intro @fa31_0 (And.intro @fa31_1 (And.intro @fa31_2 (And.intro @fa38_0 (And.intro @fa38_1 (And.intro @fa38_2 (And.intro @fa38_3 (And.intro @aggC (And.intro @aggZ (@Nat.add_zero))))))))))))))) := And.intro @ld3 (And.intro @ld2 (And.intro @ld9 (And.intro @ld31 (And.intro @ld38 (And.intro @fa31_0 (And.intro @fa31_1 (And.intro @fa31_2 (And.intro @fa38_0 (And.intro @fa38_1 (And.intro @fa38_2 (And.intro @fa38_3 (And.intro @aggC (And.intro @aggZ (@Nat.add_zero))))))))))))))
section
variable {n0 : Nat} {h0 h : AH} {L : List (Nat × AO)} {O : List OS}
/-- What 'Join' makes of the ends. -/
theorem f51_ends {β : Type} {k : Nat} {Q : β → Prop} {b2 b3 b4 b5 : Nat} {a b w z : ZoneD} {kn : Value → Value → Value → Value → Value → AH → Option β} (hz1 : z.mn = a.mn) (hz2 : z.mx = a.mx)
    (S : Stt Tryz.prog n0 h0 h [Zr b5 z, Zr b4 w, Zr b3 b, Zr b2 a] O)
    (hk : ∀ y3 y33 y53 h', Stt Tryz.prog n0 h0 h' [Zr b5 ⟨z.cnt, z.nul, if a.cnt = a.nul then b.mn else if b.cnt = b.nul then a.mn else mn2 a.mn b.mn, if a.cnt = a.nul then b.mx else if b.cnt = b.nul then a.mx else mx2 a.mx b.mx⟩, Zr b4 w, Zr b3 b, Zr b2 a] O →
      Tl (kn y3 (ptr b4) (ptr b5) y33 y53 h') Q) :
    Tl (F51_lrr (eInv env (k + 11)) (k + 11) (ptr b2) (ptr b3) (ptr b4) (ptr b5) h kn) Q := by
  obtain ⟨_, a2, a3, a4, a5, _, _⟩ := z_at S 3 rfl
  obtain ⟨_, p2, p3, p4, p5, _, _⟩ := z_at S 2 rfl
  obtain ⟨_, q2, q3, q4, q5, _, _⟩ := z_at S 0 rfl
  unfold F51_lrr ptr
  by_cases n1 : a.cnt = a.nul
  · simp only [if_pos n1] at hk
    repeat (first | (with_reducible apply qzV; simp (disch := omega) only [coreA, Int.reduceBEq, bzZc, a2, a3, p4, p5] <;> with_reducible rfl) | (with_reducible first | apply qzT | apply qzF | apply qzG | apply qzH) | ((with_reducible first | apply qzB | apply qzC | apply qzD); simp (disch := omega) only [coreA, Int.reduceBEq, bzZc, a2, a3, p4, p5] <;> with_reducible rfl))
    refine Tl.store' S 0 rfl sz31 rfl rfl (of_decide_eq_true rfl) fun h1 S1 _ => ?_
    have S1 : Stt Tryz.prog n0 h0 h1 [Zr b5 ⟨z.cnt, z.nul, b.mn, z.mx⟩, Zr b4 w, Zr b3 b, Zr b2 a] O := S1
    obtain ⟨_, s2, s3, s4, s5, _, _⟩ := z_at S1 2 rfl
    repeat (first | (with_reducible apply qzV; simp (disch := omega) only [coreA, Int.reduceBEq, bzZc, s5] <;> with_reducible rfl) | (with_reducible first | apply qzT | apply qzF | apply qzG | apply qzH) | ((with_reducible first | apply qzB | apply qzC | apply qzD); simp (disch := omega) only [coreA, Int.reduceBEq, bzZc, s5] <;> with_reducible rfl))
    refine Tl.store' S1 0 rfl sz31 rfl rfl (of_decide_eq_true rfl) fun h2 S2 _ => ?_
    have S2 : Stt Tryz.prog n0 h0 h2 [Zr b5 ⟨z.cnt, z.nul, b.mn, b.mx⟩, Zr b4 w, Zr b3 b, Zr b2 a] O := S2
    with_reducible refine Tl.chk ?_ ?_
    · simp only [ld31, p5, s5, Option.map_some, aggC, sameO_some, sameC, Bool.and_self, Bool.not_true, Bool.or_true, Bool.true_and, Bool.false_or]
    exact hk _ _ _ _ S2
  · simp only [if_neg n1] at hk
    by_cases n2 : b.cnt = b.nul
    · simp only [if_pos n2] at hk
      repeat (first | (with_reducible apply qzV; simp (disch := omega) only [coreA, Int.reduceBEq, bzZc, a2, a3, p2, p3] <;> with_reducible rfl) | (with_reducible first | apply qzT | apply qzF | apply qzG | apply qzH) | ((with_reducible first | apply qzB | apply qzC | apply qzD); simp (disch := omega) only [coreA, Int.reduceBEq, bzZc, a2, a3, p2, p3] <;> with_reducible rfl))
      refine hk _ _ _ _ ?_
      rw [← hz1, ← hz2]
      exact S
    · simp only [if_neg n2] at hk
      repeat (first | (with_reducible apply qzV; simp (disch := omega) only [coreA, Int.reduceBEq, bzZc, a2, a3, p2, p3, p4, q4] <;> with_reducible rfl) | (with_reducible first | apply qzT | apply qzF | apply qzG | apply qzH) | ((with_reducible first | apply qzB | apply qzC | apply qzD); simp (disch := omega) only [coreA, Int.reduceBEq, bzZc, a2, a3, p2, p3, p4, q4] <;> with_reducible rfl))
      with_reducible refine Tl.call' S (f101c (k := k + 2) b.mn z.mn h) fun h1 S1 _ => ?_
      have key : ∀ (h2 : AH) (y44 : Value) (m : CellD), m = mn2 a.mn b.mn → Stt Tryz.prog n0 h0 h2 [Zr b5 ⟨z.cnt, z.nul, m, z.mx⟩, Zr b4 w, Zr b3 b, Zr b2 a] O → Tl (Ev.bnd (pFieldAddr Tryz.prog 38 (.pointer (some ⟨b3, 0, none⟩)) 3) fun x48 => Ev.bnd (pLoad Tryz.prog 31 x48 h2) fun x49 => Ev.bnd (pFieldAddr Tryz.prog 38 (.pointer (some ⟨b5, 0, none⟩)) 3) fun x50 => Ev.bnd (pLoad Tryz.prog 31 x50 h2) fun x51 =>
          Ev.bnd (eInv env (k + 11) (.func 101) #[] #[x49, x51] h2) fun x52 => Ev.bnd (pBin Tryz.prog Go.BinOp.gtr 3 (Go.Operand.tmp 52) (Go.Operand.const (Go.Value.int Go.IntKind.i64 0)) x52.1 (Go.Value.int Go.IntKind.i64 0)) fun x53 =>
          brV x53 (Ev.bnd (pFieldAddr Tryz.prog 38 (.pointer (some ⟨b3, 0, none⟩)) 3) fun x54 => Ev.bnd (pLoad Tryz.prog 31 x54 x52.2) fun x55 => Ev.bnd (pFieldAddr Tryz.prog 38 (.pointer (some ⟨b5, 0, none⟩)) 3) fun x56 => Ev.bnd (kSt (pStore Tryz.prog 31 x56 x55 x52.2)) fun u_3 => kn unk (ptr b4) (ptr b5) unk unk u_3.2)
            (kn (ptr b3) (ptr b4) (ptr b5) unk x53 x52.2)) Q := by
        intro h2 y44 m hm S2
        obtain ⟨_, p2, p3, p4, p5, _, _⟩ := z_at S2 2 rfl
        obtain ⟨_, q2, q3, q4, q5, _, _⟩ := z_at S2 0 rfl
        repeat (first | (with_reducible apply qzV; simp (disch := omega) only [coreA, Int.reduceBEq, bzZc, p5, q5] <;> with_reducible rfl) | (with_reducible first | apply qzT | apply qzF | apply qzG | apply qzH) | ((with_reducible first | apply qzB | apply qzC | apply qzD); simp (disch := omega) only [coreA, Int.reduceBEq, bzZc, p5, q5] <;> with_reducible rfl))
        with_reducible refine Tl.call' S2 (f101c (k := k + 2) b.mx z.mx h2) fun h3 S3 _ => ?_
        obtain ⟨_, p2, p3, p4, p5, _, _⟩ := z_at S3 2 rfl
        subst hm
        by_cases e3 : b.mx.cmp z.mx > 0
        · have e3' : b.mx.cmp a.mx > 0 := by rw [← hz2]; exact e3
          repeat (first | (with_reducible apply qzV; simp (disch := omega) only [coreA, Int.reduceBEq, bzZc, p5] <;> with_reducible rfl) | (with_reducible first | apply qzT | apply qzF | apply qzG | apply qzH) | ((with_reducible first | apply qzB | apply qzC | apply qzD); simp (disch := omega) only [coreA, Int.reduceBEq, bzZc, p5] <;> with_reducible rfl))
          refine Tl.store' S3 0 rfl sz31 rfl rfl (of_decide_eq_true rfl) fun h4 S4 _ => ?_
          refine hk _ _ _ _ ?_
          rw [show mx2 a.mx b.mx = b.mx by unfold mx2; rw [if_pos e3']]
          exact S4
        · have e3' : ¬ b.mx.cmp a.mx > 0 := by rw [← hz2]; exact e3
          repeat (first | (with_reducible apply qzV; simp (disch := omega) only [coreA, Int.reduceBEq, bzZc] <;> with_reducible rfl) | (with_reducible first | apply qzT | apply qzF | apply qzG | apply qzH) | ((with_reducible first | apply qzB | apply qzC | apply qzD); simp (disch := omega) only [coreA, Int.reduceBEq, bzZc] <;> with_reducible rfl))
          refine hk _ _ _ _ ?_
          rw [show mx2 a.mx b.mx = z.mx by unfold mx2; rw [if_neg e3', hz2]]
          exact S3
      unfold F51_rllrrrllrr
      by_cases e3 : b.mn.cmp z.mn < 0
      · have e3' : b.mn.cmp a.mn < 0 := by rw [← hz1]; exact e3
        obtain ⟨_, p2, p3, p4, p5, _, _⟩ := z_at S1 2 rfl
        repeat (first | (with_reducible apply qzV; simp (disch := omega) only [coreA, Int.reduceBEq, bzZc, p4] <;> with_reducible rfl) | (with_reducible first | apply qzT | apply qzF | apply qzG | apply qzH) | ((with_reducible first | apply qzB | apply qzC | apply qzD); simp (disch := omega) only [coreA, Int.reduceBEq, bzZc, p4] <;> with_reducible rfl))
        refine Tl.store' S1 0 rfl sz31 rfl rfl (of_decide_eq_true rfl) fun h4 S4 _ => ?_
        exact key h4 unk b.mn (by unfold mn2; rw [if_pos e3']) S4
      · have e3' : ¬ b.mn.cmp a.mn < 0 := by rw [← hz1]; exact e3
        repeat (first | (with_reducible apply qzV; simp (disch := omega) only [coreA, Int.reduceBEq, bzZc] <;> with_reducible rfl) | (with_reducible first | apply qzT | apply qzF | apply qzG | apply qzH) | ((with_reducible first | apply qzB | apply qzC | apply qzD); simp (disch := omega) only [coreA, Int.reduceBEq, bzZc] <;> with_reducible rfl))
        exact key h1 unk z.mn (by unfold mn2; rw [if_neg e3', hz1]) S1
/-- 'Join'. -/
theorem f51c {k : Nat} (a b : ZoneD) (h : AH) : Tl (eInv env (k + 12) (.func 51) #[] #[zv a, zv b] h) fun r => r.1 = zv (joinZ a b) ∧ Grow h r.2 := by
  rw [F51_call]
  unfold F51
  refine Tl.box' (Stt.init h) rfl isZ fun b2 h1 S1 _ => ?_
  refine Tl.box' S1 rfl isZ fun b3 h2 S2 _ => ?_
  refine Tl.alloc' S2 ze38 rfl fun b4 h3 S3 _ => ?_
  have S3 : Stt Tryz.prog h.n h h3 [Zr b4 z0, Zr b3 b, Zr b2 a] [] := S3
  obtain ⟨_, a2, a3, a4, a5, _, _⟩ := z_at S3 2 rfl
  obtain ⟨_, p2, p3, p4, p5, _, _⟩ := z_at S3 1 rfl
  repeat (first | (with_reducible apply qzV; simp (disch := omega) only [coreA, Int.reduceBEq, bzZc, a2, a3, a4, a5, p2, p3, bdZc] <;> with_reducible rfl) | (with_reducible first | apply qzT | apply qzF | apply qzG | apply qzH) | ((with_reducible first | apply qzB | apply qzC | apply qzD); simp (disch := omega) only [coreA, Int.reduceBEq, bzZc, a2, a3, a4, a5, p2, p3, bdZc] <;> with_reducible rfl))
  refine Tl.alloc' S3 ze38 rfl fun b5 h4 S4 _ => ?_
  refine Tl.store' S4 0 rfl sz38 rfl rfl (of_decide_eq_true rfl) fun h5 S5 _ => ?_
  have S5 : Stt Tryz.prog h.n h h5 [Zr b5 ⟨IntKind.i64.wrap (a.cnt + b.cnt), IntKind.i64.wrap (a.nul + b.nul), a.mn, a.mx⟩, Zr b4 z0, Zr b3 b, Zr b2 a] [] := S5
  refine f51_ends (z := ⟨IntKind.i64.wrap (a.cnt + b.cnt), IntKind.i64.wrap (a.nul + b.nul), a.mn, a.mx⟩) (a := a) (b := b) (w := z0) rfl rfl S5 fun y3 y33 y53 h6 S6 => ?_
  have S6 : Stt Tryz.prog h.n h h6 [Zr b5 (joinZ a b), Zr b4 z0, Zr b3 b, Zr b2 a] [] := S6
  have s1 := (z_at S6 0 rfl).all
  unfold ptr
  repeat (first | (with_reducible apply qzV; simp (disch := omega) only [coreA, Int.reduceBEq, bzZc, s1] <;> with_reducible rfl) | (with_reducible first | apply qzT | apply qzF | apply qzG | apply qzH) | ((with_reducible first | apply qzB | apply qzC | apply qzD); simp (disch := omega) only [coreA, Int.reduceBEq, bzZc, s1] <;> with_reducible rfl))
  refine Tl.store' S6 1 rfl sz38 rfl rfl (of_decide_eq_true rfl) fun h7 S7 _ => ?_
  have S7 : Stt Tryz.prog h.n h h7 [Zr b5 (joinZ a b), Zr b4 (joinZ a b), Zr b3 b, Zr b2 a] [] := S7
  have t1 := (z_at S7 1 rfl).all
  repeat (first | (with_reducible apply qzV; simp (disch := omega) only [coreA, Int.reduceBEq, bzZc, t1] <;> with_reducible rfl) | (with_reducible first | apply qzT | apply qzF | apply qzG | apply qzH) | ((with_reducible first | apply qzB | apply qzC | apply qzD); simp (disch := omega) only [coreA, Int.reduceBEq, bzZc, t1] <;> with_reducible rfl))
  exact ⟨_, rfl, rfl, S7.grow⟩
theorem f31_loop {β : Type} {k : Nat} {Q : β → Prop} {h0 : AH} {b2 : Nat} {v : Value} {l : List CellD} (S : Cells h0 v l) (hl : l.length ≤ 2 ^ 40) {ke0 : Value → Value → Value → Value → Value → AH → Option β} (n : Nat) :
    ∀ {i j : Nat} {z : ZoneD} {h : AH}, i + n = l.length → n < j → Stt Tryz.prog h0.n h0 h [Zr b2 z] [] →
      (∀ h' y7 y8, Stt Tryz.prog h0.n h0 h' [Zr b2 ((l.drop i).foldl (fun z c => joinZ z (oneZ c)) z)] [] → Tl (ke0 (ptr b2) v (.int .i64 l.length) y7 y8 h') Q) →
      Tl (F31_lrlr (eInv env (k + 12)) (k + 12) j (ptr b2) v (.int .i64 l.length) (.int .i64 i) h ke0) Q := by
  induction n with
  | zero =>
    intro i j z h hi hj T hk
    obtain ⟨j, rfl⟩ : ∃ q, j = q + 1 := ⟨j - 1, by omega⟩
    simp only [F31_lrlr]
    repeat (first | (with_reducible apply qzV; simp (disch := omega) only [coreA, Int.reduceBEq, bzZc] <;> with_reducible rfl) | (with_reducible first | apply qzT | apply qzF | apply qzG | apply qzH) | ((with_reducible first | apply qzB | apply qzC | apply qzD); simp (disch := omega) only [coreA, Int.reduceBEq, bzZc] <;> with_reducible rfl))
    refine hk _ _ _ ?_
    rw [List.drop_eq_nil_of_le (by omega)]
    exact T
  | succ n ih =>
    intro i j z h hi hj T hk
    obtain ⟨j, rfl⟩ : ∃ q, j = q + 1 := ⟨j - 1, by omega⟩
    obtain ⟨c, hc⟩ : ∃ c, l[i]? = some c := ⟨_, List.getElem?_eq_getElem (by omega)⟩
    obtain ⟨b, o, hx, hr⟩ := (S.grow T.grow).at_ hc
    have e : (i : Int) + 1 = ((i + 1 : Nat) : Int) := by omega
    simp only [F31_lrlr]
    unfold ptr
    repeat (first | (with_reducible apply qzV; simp (disch := omega) only [coreA, Int.reduceBEq, bzZc, hx, hr] <;> with_reducible rfl) | (with_reducible first | apply qzT | apply qzF | apply qzG | apply qzH) | ((with_reducible first | apply qzB | apply qzC | apply qzD); simp (disch := omega) only [coreA, Int.reduceBEq, bzZc, hx, hr] <;> with_reducible rfl))
    refine Tl.alloc' T ze31 rfl fun b4 h1 T1 _ => ?_
    refine Tl.store' T1 0 rfl sz31 rfl rfl (of_decide_eq_true rfl) fun h2 T2 _ => ?_
    have T2 : Stt Tryz.prog h0.n h0 h2 [Cr b4 c, Zr b2 z] [] := T2
    obtain ⟨r4, _⟩ := c_at T2 0 rfl
    have r2 := (z_at T2 1 rfl).all
    repeat (first | (with_reducible apply qzV; simp (disch := omega) only [coreA, Int.reduceBEq, bzZc, r4, r2] <;> with_reducible rfl) | (with_reducible first | apply qzT | apply qzF | apply qzG | apply qzH) | ((with_reducible first | apply qzB | apply qzC | apply qzD); simp (disch := omega) only [coreA, Int.reduceBEq, bzZc, r4, r2] <;> with_reducible rfl))
    with_reducible refine Tl.call' T2 (f52c (k := k + 11) c h2) fun h3 T3 _ => ?_
    with_reducible refine Tl.call' T3 (f51c (k := k) z (oneZ c) h3) fun h4 T4 _ => ?_
    have r3 := (z_at T3 1 rfl).all
    refine Tl.store' T4 1 rfl sz38 rfl rfl (of_decide_eq_true rfl) fun h5 T5 _ => ?_
    have T5 : Stt Tryz.prog h0.n h0 h5 [Cr b4 c, Zr b2 (joinZ z (oneZ c))] [] := T5
    with_reducible refine Tl.chk ?_ ?_
    · simp only [ld38, r2, r3, Option.map_some, aggZ, sameO_some, sameZ, Bool.and_self, Bool.not_true, Bool.or_true, Bool.true_and, Bool.false_or]
    repeat (first | (with_reducible apply qzV; simp (disch := omega) only [coreA, Int.reduceBEq, bzZc] <;> with_reducible rfl) | (with_reducible first | apply qzT | apply qzF | apply qzG | apply qzH) | ((with_reducible first | apply qzB | apply qzC | apply qzD); simp (disch := omega) only [coreA, Int.reduceBEq, bzZc] <;> with_reducible rfl))
    rw [e]
    refine ih (by omega) (by omega) T5.drop fun h' y7 y8 T' => ?_
    refine hk h' y7 y8 ?_
    rw [drop_at hc]
    exact T'
/-- 'Of'. -/
theorem f31c {k : Nat} {h : AH} {v : Value} {l : List CellD} (S : Cells h v l) (hl : l.length ≤ 2 ^ 40) (hk : l.length < k + 12) : Tl (eInv env (k + 13) (.func 31) #[] #[v] h) fun r => r.1 = zv (ofZ l) ∧ Grow h r.2 := by
  rw [F31_call]
  unfold F31
  refine Tl.alloc' (Stt.init h) ze38 rfl fun b2 h1 S1 _ => ?_
  have S1 : Stt Tryz.prog h.n h h1 [Zr b2 z0] [] := S1
  have hlen : ∀ h', pLen Tryz.prog #[22] v h' = some (.int .i64 l.length) := fun h' => S.len
  repeat (first | (with_reducible apply qzV; simp (disch := omega) only [coreA, Int.reduceBEq, bzZc, hlen] <;> with_reducible rfl) | (with_reducible first | apply qzT | apply qzF | apply qzG | apply qzH) | ((with_reducible first | apply qzB | apply qzC | apply qzD); simp (disch := omega) only [coreA, Int.reduceBEq, bzZc, hlen] <;> with_reducible rfl))
  refine f31_loop (i := 0) (z := z0) S hl l.length (by omega) hk S1 fun h2 y7 y8 S2 => ?_
  rw [List.drop_zero] at S2
  have r1 := (z_at S2 0 rfl).all
  unfold ptr
  repeat (first | (with_reducible apply qzV; simp (disch := omega) only [coreA, Int.reduceBEq, bzZc, r1] <;> with_reducible rfl) | (with_reducible first | apply qzT | apply qzF | apply qzG | apply qzH) | ((with_reducible first | apply qzB | apply qzC | apply qzD); simp (disch := omega) only [coreA, Int.reduceBEq, bzZc, r1] <;> with_reducible rfl))
  refine Tl.store' S2 0 rfl sz38 rfl rfl (of_decide_eq_true rfl) fun h3 S3 _ => ?_
  have S3 : Stt Tryz.prog h.n h h3 [Zr b2 (ofZ l)] [] := S3
  have r3 := (z_at S3 0 rfl).all
  repeat (first | (with_reducible apply qzV; simp (disch := omega) only [coreA, Int.reduceBEq, bzZc, r3] <;> with_reducible rfl) | (with_reducible first | apply qzT | apply qzF | apply qzG | apply qzH) | ((with_reducible first | apply qzB | apply qzC | apply qzD); simp (disch := omega) only [coreA, Int.reduceBEq, bzZc, r3] <;> with_reducible rfl))
  exact ⟨_, rfl, rfl, S3.grow⟩
end
end Go.Proofs.YtghelamfaaakcaaGreat.Sh
