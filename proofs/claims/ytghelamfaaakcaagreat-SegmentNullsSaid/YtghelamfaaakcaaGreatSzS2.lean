/- Codecs: how a cell becomes a value, and a value bytes; 'zone'. -/
import Derived.Test.YtghelamfaaakcaaGreatSzS1
import Derived.Test.YtghelamfaaakcaaGreatSzIc
import Derived.Test.YtghelamfaaakcaaGreatSzXc
set_option linter.unusedVariables false
set_option linter.unusedSimpArgs false
set_option maxRecDepth 100000
namespace Go.Proofs.YtghelamfaaakcaaGreat.Sh
open Go Go.RowKit Go.Proofs.Ev Go.Lib
theorem bzS2 : type_of% (And.intro @ld3 (And.intro @ld2 (And.intro @ld9 (And.intro @ld60 (And.intro @ld31 (And.intro @ld38 (And.intro @ld80 (And.intro @ld88 (And.intro @ld96 (And.intro @ld81 (And.intro @ld59 (And.intro @ld98 (And.intro @ld83 (And.intro @ld91 (And.intro @ld100 (And.intro @fa86_0 (And.intro @fa86_2 (And.intro @fa86_4 (And.intro @fa94_0 (And.intro @fa94_2 (And.intro @fa94_4 (And.intro @fa103_0 (And.intro @fa103_2 (And.intro @fa103_4 (And.intro @fa31_0 (And.intro @fa31_1 (And.intro @fa31_2 (And.intro @fa38_0 (And.intro @fa38_1 (And.intro @fa38_2 (And.intro @fa38_3 (And.intro (fun a h => conv_int (a := a) (h := h) u2 u60) (And.intro (fun a h => conv_int (a := a) (h := h) u60 u2) (And.intro (fun a h => conv_int (a := a) (h := h) u60 u5) (And.intro (fun a h => conv_int (a := a) (h := h) u3 u60) (And.intro @aggC (And.intro @wrapU (And.intro @ex2_0 (And.intro @ex2_1 (@Nat.add_zero)))))))))))))))))))))))))))))))))))))))) := And.intro @ld3 (And.intro @ld2 (And.intro @ld9 (And.intro @ld60 (And.intro @ld31 (And.intro @ld38 (And.intro @ld80 (And.intro @ld88 (And.intro @ld96 (And.intro @ld81 (And.intro @ld59 (And.intro @ld98 (And.intro @ld83 (And.intro @ld91 (And.intro @ld100 (And.intro @fa86_0 (And.intro @fa86_2 (And.intro @fa86_4 (And.intro @fa94_0 (And.intro @fa94_2 (And.intro @fa94_4 (And.intro @fa103_0 (And.intro @fa103_2 (And.intro @fa103_4 (And.intro @fa31_0 (And.intro @fa31_1 (And.intro @fa31_2 (And.intro @fa38_0 (And.intro @fa38_1 (And.intro @fa38_2 (And.intro @fa38_3 (And.intro (fun a h => conv_int (a := a) (h := h) u2 u60) (And.intro (fun a h => conv_int (a := a) (h := h) u60 u2) (And.intro (fun a h => conv_int (a := a) (h := h) u60 u5) (And.intro (fun a h => conv_int (a := a) (h := h) u3 u60) (And.intro @aggC (And.intro @wrapU (And.intro @ex2_0 (And.intro @ex2_1 (@Nat.add_zero)))))))))))))))))))))))))))))))))))))))
theorem sameF {f : Nat} : sameV (.func (.func f) #[] #[]) (.func (.func f) #[] #[]) = true := by simp [sameV, sameList, same0, beqB]
theorem conv_u8 {x : Nat} {h : AH} : pConv Tryz.prog 60 5 (.int .u64 (x : Int)) h = some (.int .u8 ((x % 256 : Nat) : Int)) := by
  rw [conv_int u60 u5, wrap_u8]; congr 2
section
variable {n0 : Nat} {h0 h : AH} {L : List (Nat × AO)} {O : List OS}
theorem isN : (szT Tryz.prog 86).isSome = true := by rw [sz86]; rfl
def oneN (c : CellD) : List Nat := le (toU c.i) 0 8
theorem f72c {k : Nat} (c : CellD) (h : AH) : Tl (eInv env (k + 1) (.func 72) #[] #[c.v] h) fun r => r.1 = .int .i64 c.i ∧ Grow h r.2 := by
  rw [F72_call]
  unfold F72
  refine Tl.box' (Stt.init h) rfl isC fun b1 h1 S1 _ => ?_
  have S1 : Stt Tryz.prog h.n h h1 [Cr b1 c] [] := S1
  obtain ⟨_, _, ic, sc⟩ := c_at S1 0 rfl
  repeat (first | (with_reducible apply qzV; simp (disch := omega) only [coreA, Int.reduceBEq, bzS2, ic, sc] <;> with_reducible rfl) | (with_reducible first | apply qzT | apply qzF | apply qzG | apply qzH) | ((with_reducible first | apply qzB | apply qzC | apply qzD); simp (disch := omega) only [coreA, Int.reduceBEq, bzS2, ic, sc] <;> with_reducible rfl))
  exact ⟨_, rfl, rfl, S1.grow⟩
theorem isT : (szT Tryz.prog 94).isSome = true := by rw [sz94]; rfl
def oneT (c : CellD) : List Nat := [toU c.i % 256]
theorem f81c {k : Nat} (c : CellD) (h : AH) : Tl (eInv env (k + 1) (.func 81) #[] #[c.v] h) fun r => r.1 = .int .u64 (toU c.i : Int) ∧ Grow h r.2 := by
  rw [F81_call]
  unfold F81
  refine Tl.box' (Stt.init h) rfl isC fun b1 h1 S1 _ => ?_
  have S1 : Stt Tryz.prog h.n h h1 [Cr b1 c] [] := S1
  obtain ⟨_, _, ic, sc⟩ := c_at S1 0 rfl
  repeat (first | (with_reducible apply qzV; simp (disch := omega) only [coreA, Int.reduceBEq, bzS2, ic, sc] <;> with_reducible rfl) | (with_reducible first | apply qzT | apply qzF | apply qzG | apply qzH) | ((with_reducible first | apply qzB | apply qzC | apply qzD); simp (disch := omega) only [coreA, Int.reduceBEq, bzS2, ic, sc] <;> with_reducible rfl))
  exact ⟨_, rfl, rfl, S1.grow⟩
theorem isW : (szT Tryz.prog 103).isSome = true := by rw [sz103]; rfl
def oneW (c : CellD) : List Nat := pvarN c.s.size ++ bytesN c.s
theorem f88c {k : Nat} (c : CellD) (h : AH) : Tl (eInv env (k + 1) (.func 88) #[] #[c.v] h) fun r => r.1 = .string c.s ∧ Grow h r.2 := by
  rw [F88_call]
  unfold F88
  refine Tl.box' (Stt.init h) rfl isC fun b1 h1 S1 _ => ?_
  have S1 : Stt Tryz.prog h.n h h1 [Cr b1 c] [] := S1
  obtain ⟨_, _, ic, sc⟩ := c_at S1 0 rfl
  repeat (first | (with_reducible apply qzV; simp (disch := omega) only [coreA, Int.reduceBEq, bzS2, ic, sc] <;> with_reducible rfl) | (with_reducible first | apply qzT | apply qzF | apply qzG | apply qzH) | ((with_reducible first | apply qzB | apply qzC | apply qzD); simp (disch := omega) only [coreA, Int.reduceBEq, bzS2, ic, sc] <;> with_reducible rfl))
  exact ⟨_, rfl, rfl, S1.grow⟩
theorem f74c {k : Nat} {v : Value} {l : List Nat} (c : CellD) (hl : l.length ≤ 2 ^ 28) (S : Stt Tryz.prog n0 h0 h L ((v, 1, u8rows l) :: O)) :
    Tl (eInv env (k + 21) (.func 74) #[] #[v, .int .i64 c.i] h) fun r => Stt Tryz.prog n0 h0 r.2 L ((r.1, 1, u8rows (l ++ oneN c)) :: O) := by
  rw [F74_call]
  unfold F74 oneN
  repeat (first | (with_reducible apply qzV; simp (disch := omega) only [coreA, Int.reduceBEq, bzS2] <;> with_reducible rfl) | (with_reducible first | apply qzT | apply qzF | apply qzG | apply qzH) | ((with_reducible first | apply qzB | apply qzC | apply qzD); simp (disch := omega) only [coreA, Int.reduceBEq, bzS2] <;> with_reducible rfl))
  refine Tl.bind (f75c (k := k) (toU c.i) (by omega) S) ?_
  rintro ⟨r, h1⟩ S1
  exact ⟨_, rfl, S1⟩
theorem f83c {k : Nat} {v : Value} {l : List Nat} (c : CellD) (hl : l.length ≤ 2 ^ 28) (S : Stt Tryz.prog n0 h0 h L ((v, 1, u8rows l) :: O)) :
    Tl (eInv env (k + 21) (.func 83) #[] #[v, .int .u64 (toU c.i : Int)] h) fun r => Stt Tryz.prog n0 h0 r.2 L ((r.1, 1, u8rows (l ++ oneT c)) :: O) := by
  rw [F83_call]
  unfold F83 oneT
  repeat (first | (with_reducible apply qzV; simp (disch := omega) only [coreA, Int.reduceBEq, bzS2, conv_u8] <;> with_reducible rfl) | (with_reducible first | apply qzT | apply qzF | apply qzG | apply qzH) | ((with_reducible first | apply qzB | apply qzC | apply qzD); simp (disch := omega) only [coreA, Int.reduceBEq, bzS2, conv_u8] <;> with_reducible rfl))
  refine Tl.push S 0 rfl app33 (bs33 _ _) rfl rfl (by rw [u8rows_len]; omega) fun v' h' S' => ?_
  refine ⟨_, rfl, ?_⟩
  simpa [u8rows, u8v, wrap_u8] using S'
theorem f90c {k : Nat} {v : Value} {l : List Nat} (c : CellD) (hc : c.s.size ≤ 2 ^ 28) (hl : l.length ≤ 2 ^ 28) (S : Stt Tryz.prog n0 h0 h L ((v, 1, u8rows l) :: O)) :
    Tl (eInv env (k + 21) (.func 90) #[] #[v, .string c.s] h) fun r => Stt Tryz.prog n0 h0 r.2 L ((r.1, 1, u8rows (l ++ oneW c)) :: O) := by
  rw [F90_call]
  unfold F90 oneW
  have hs : ∀ h' : AH, pLen Tryz.prog #[9] (.string c.s) h' = some (.int .i64 c.s.size) := fun h' => len_string u9
  have ew : toU (c.s.size : Int) = c.s.size := by unfold toU; omega
  have hp := pvarN_le10 (n := c.s.size) (by omega)
  repeat (first | (with_reducible apply qzV; simp (disch := omega) only [coreA, Int.reduceBEq, bzS2, hs, ew] <;> with_reducible rfl) | (with_reducible first | apply qzT | apply qzF | apply qzG | apply qzH) | ((with_reducible first | apply qzB | apply qzC | apply qzD); simp (disch := omega) only [coreA, Int.reduceBEq, bzS2, hs, ew] <;> with_reducible rfl))
  refine Tl.bind (f47c (k := k) c.s.size (by omega) (by omega) S) ?_
  rintro ⟨v1, h1⟩ S1
  refine Tl.appendS S1 0 rfl appStr (by rw [u8rows_len, List.length_append]; omega) fun v2 h2 S2 => ?_
  refine ⟨_, rfl, ?_⟩
  have e : u8rows (l ++ pvarN c.s.size) ++ ((bytesN c.s).map fun x : Nat => [Value.int .u8 (x : Int)]) = u8rows (l ++ (pvarN c.s.size ++ bytesN c.s)) := by simp [u8rows, u8v]
  rw [← e]
  exact S2
theorem lenN (c : CellD) : (oneN c).length ≤ 2 ^ 21 := by
  unfold oneN
  rw [le_len]; decide
/-- 'zone'. -/
theorem zoneN_c {k : Nat} {v : Value} {l : List Nat} (z : ZoneD) (hl : l.length ≤ 2 ^ 26) (S : Stt Tryz.prog n0 h0 h L ((v, 1, u8rows l) :: O)) :
    Tl (eInv env (k + 31) (.method "shadowbook/segment.zone") #[] #[.iface 86 (.agg codNL.toArray), v, zv z] h) fun r => Stt Tryz.prog n0 h0 r.2 L ((r.1, 1, u8rows (l ++ (oneN z.mn ++ oneN z.mx))) :: O) := by
  rw [show eInv env (k + 31) (.method "shadowbook/segment.zone") #[] #[.iface 86 (.agg codNL.toArray), v, zv z] h = F216 (eInv env (k + 30)) (k + 30) (.agg codNL.toArray) v (zv z) h from
    (by kernel_rfl : _ = eFun env (k + 30) (eInv env (k + 30)) 216 #[.agg codNL.toArray, v, zv z] h).trans F216_eq]
  unfold F216
  have q1 := lenN z.mn
  refine Tl.box' S rfl isN fun b3 h1 S1 _ => ?_
  refine Tl.box' S1 rfl isZ fun b5 h2 S2 _ => ?_
  have S2 : Stt Tryz.prog n0 h0 h2 (Zr b5 z :: (b3, .cells codNL 86 true) :: L) ((v, 1, u8rows l) :: O) := S2
  have F0 : ∀ {h' : AH} {O' : List OS}, Stt Tryz.prog n0 h0 h' (Zr b5 z :: (b3, .cells codNL 86 true) :: L) O' → h'.cell b3 0 = some (.func (.func 72) #[] #[]) ∧ h'.cell b3 2 = some (.func (.func 74) #[] #[]) ∧ h'.row b5 2 3 = some (crow z.mn) ∧ h'.row b5 5 3 = some (crow z.mx) := fun T => ⟨T.cell 1 rfl rfl, T.cell 1 rfl rfl, (z_at T 0 rfl).mn, (z_at T 0 rfl).mx⟩
  obtain ⟨a0, a1, a2, a3⟩ := F0 S2
  repeat (first | (with_reducible apply qzV; simp (disch := omega) only [coreA, Int.reduceBEq, bzS2, a0, a1, a2, a3] <;> with_reducible rfl) | (with_reducible first | apply qzT | apply qzF | apply qzG | apply qzH) | ((with_reducible first | apply qzB | apply qzC | apply qzD); simp (disch := omega) only [coreA, Int.reduceBEq, bzS2, a0, a1, a2, a3] <;> with_reducible rfl))
  rw [callV_fn1]
  with_reducible refine Tl.call' S2 (f72c (k := k + 29) z.mn h2) fun h3 S3 _ => ?_
  obtain ⟨c0, c1, c2, c3⟩ := F0 S3
  rw [callV_fn2]
  refine Tl.bind (f74c (k := k + 9) z.mn (by omega) S3) ?_
  rintro ⟨v4, h4⟩ S4
  obtain ⟨d0, d1, d2, d3⟩ := F0 S4
  repeat (first | (with_reducible apply qzV; simp (disch := omega) only [coreA, Int.reduceBEq, bzS2, d0, d1, d2, d3] <;> with_reducible rfl) | (with_reducible first | apply qzT | apply qzF | apply qzG | apply qzH) | ((with_reducible first | apply qzB | apply qzC | apply qzD); simp (disch := omega) only [coreA, Int.reduceBEq, bzS2, d0, d1, d2, d3] <;> with_reducible rfl))
  rw [callV_fn1]
  with_reducible refine Tl.call' S4 (f72c (k := k + 29) z.mx h4) fun h5 S5 _ => ?_
  obtain ⟨e0, e1, e2, e3⟩ := F0 S5
  rw [callV_fn2]
  refine Tl.bind (f74c (k := k + 9) z.mx (by rw [List.length_append]; omega) S5) ?_
  rintro ⟨v6, h6⟩ S6
  with_reducible refine Tl.chk ?_ ?_
  · simp only [ld31, ld80, ld81, Nat.zero_add, a0, a1, a2, a3, c0, c1, c2, c3, d0, d1, d2, d3, e0, e1, e2, e3, Option.map_some, aggC, sameO_some, sameC, sameF, Bool.and_self, Bool.not_true, Bool.or_true, Bool.true_and, Bool.false_or]
  refine ⟨_, rfl, ?_⟩
  rw [← List.append_assoc]
  exact S6.drop.drop
theorem lenT (c : CellD) : (oneT c).length ≤ 2 ^ 21 := by
  unfold oneT
  simp
/-- 'zone'. -/
theorem zoneT_c {k : Nat} {v : Value} {l : List Nat} (z : ZoneD) (hl : l.length ≤ 2 ^ 26) (S : Stt Tryz.prog n0 h0 h L ((v, 1, u8rows l) :: O)) :
    Tl (eInv env (k + 31) (.method "shadowbook/segment.zone") #[] #[.iface 94 (.agg codTL.toArray), v, zv z] h) fun r => Stt Tryz.prog n0 h0 r.2 L ((r.1, 1, u8rows (l ++ (oneT z.mn ++ oneT z.mx))) :: O) := by
  rw [show eInv env (k + 31) (.method "shadowbook/segment.zone") #[] #[.iface 94 (.agg codTL.toArray), v, zv z] h = F220 (eInv env (k + 30)) (k + 30) (.agg codTL.toArray) v (zv z) h from
    (by kernel_rfl : _ = eFun env (k + 30) (eInv env (k + 30)) 220 #[.agg codTL.toArray, v, zv z] h).trans F220_eq]
  unfold F220
  have q1 := lenT z.mn
  refine Tl.box' S rfl isT fun b3 h1 S1 _ => ?_
  refine Tl.box' S1 rfl isZ fun b5 h2 S2 _ => ?_
  have S2 : Stt Tryz.prog n0 h0 h2 (Zr b5 z :: (b3, .cells codTL 94 true) :: L) ((v, 1, u8rows l) :: O) := S2
  have F0 : ∀ {h' : AH} {O' : List OS}, Stt Tryz.prog n0 h0 h' (Zr b5 z :: (b3, .cells codTL 94 true) :: L) O' → h'.cell b3 0 = some (.func (.func 81) #[] #[]) ∧ h'.cell b3 2 = some (.func (.func 83) #[] #[]) ∧ h'.row b5 2 3 = some (crow z.mn) ∧ h'.row b5 5 3 = some (crow z.mx) := fun T => ⟨T.cell 1 rfl rfl, T.cell 1 rfl rfl, (z_at T 0 rfl).mn, (z_at T 0 rfl).mx⟩
  obtain ⟨a0, a1, a2, a3⟩ := F0 S2
  repeat (first | (with_reducible apply qzV; simp (disch := omega) only [coreA, Int.reduceBEq, bzS2, a0, a1, a2, a3] <;> with_reducible rfl) | (with_reducible first | apply qzT | apply qzF | apply qzG | apply qzH) | ((with_reducible first | apply qzB | apply qzC | apply qzD); simp (disch := omega) only [coreA, Int.reduceBEq, bzS2, a0, a1, a2, a3] <;> with_reducible rfl))
  rw [callV_fn1]
  with_reducible refine Tl.call' S2 (f81c (k := k + 29) z.mn h2) fun h3 S3 _ => ?_
  obtain ⟨c0, c1, c2, c3⟩ := F0 S3
  rw [callV_fn2]
  refine Tl.bind (f83c (k := k + 9) z.mn (by omega) S3) ?_
  rintro ⟨v4, h4⟩ S4
  obtain ⟨d0, d1, d2, d3⟩ := F0 S4
  repeat (first | (with_reducible apply qzV; simp (disch := omega) only [coreA, Int.reduceBEq, bzS2, d0, d1, d2, d3] <;> with_reducible rfl) | (with_reducible first | apply qzT | apply qzF | apply qzG | apply qzH) | ((with_reducible first | apply qzB | apply qzC | apply qzD); simp (disch := omega) only [coreA, Int.reduceBEq, bzS2, d0, d1, d2, d3] <;> with_reducible rfl))
  rw [callV_fn1]
  with_reducible refine Tl.call' S4 (f81c (k := k + 29) z.mx h4) fun h5 S5 _ => ?_
  obtain ⟨e0, e1, e2, e3⟩ := F0 S5
  rw [callV_fn2]
  refine Tl.bind (f83c (k := k + 9) z.mx (by rw [List.length_append]; omega) S5) ?_
  rintro ⟨v6, h6⟩ S6
  with_reducible refine Tl.chk ?_ ?_
  · simp only [ld31, ld88, ld59, Nat.zero_add, a0, a1, a2, a3, c0, c1, c2, c3, d0, d1, d2, d3, e0, e1, e2, e3, Option.map_some, aggC, sameO_some, sameC, sameF, Bool.and_self, Bool.not_true, Bool.or_true, Bool.true_and, Bool.false_or]
  refine ⟨_, rfl, ?_⟩
  rw [← List.append_assoc]
  exact S6.drop.drop
theorem lenW (c : CellD) (hc : c.s.size ≤ 2 ^ 20) : (oneW c).length ≤ 2 ^ 21 := by
  unfold oneW
  have := pvarN_le10 (n := c.s.size) (by omega)
  rw [List.length_append, bytesN_len]; omega
/-- 'zone'. -/
theorem zoneW_c {k : Nat} {v : Value} {l : List Nat} (z : ZoneD) (hc : z.mn.s.size ≤ 2 ^ 20) (hd : z.mx.s.size ≤ 2 ^ 20) (hl : l.length ≤ 2 ^ 26) (S : Stt Tryz.prog n0 h0 h L ((v, 1, u8rows l) :: O)) :
    Tl (eInv env (k + 31) (.method "shadowbook/segment.zone") #[] #[.iface 103 (.agg codWL.toArray), v, zv z] h) fun r => Stt Tryz.prog n0 h0 r.2 L ((r.1, 1, u8rows (l ++ (oneW z.mn ++ oneW z.mx))) :: O) := by
  rw [show eInv env (k + 31) (.method "shadowbook/segment.zone") #[] #[.iface 103 (.agg codWL.toArray), v, zv z] h = F224 (eInv env (k + 30)) (k + 30) (.agg codWL.toArray) v (zv z) h from
    (by kernel_rfl : _ = eFun env (k + 30) (eInv env (k + 30)) 224 #[.agg codWL.toArray, v, zv z] h).trans F224_eq]
  unfold F224
  have q1 := lenW z.mn hc
  refine Tl.box' S rfl isW fun b3 h1 S1 _ => ?_
  refine Tl.box' S1 rfl isZ fun b5 h2 S2 _ => ?_
  have S2 : Stt Tryz.prog n0 h0 h2 (Zr b5 z :: (b3, .cells codWL 103 true) :: L) ((v, 1, u8rows l) :: O) := S2
  have F0 : ∀ {h' : AH} {O' : List OS}, Stt Tryz.prog n0 h0 h' (Zr b5 z :: (b3, .cells codWL 103 true) :: L) O' → h'.cell b3 0 = some (.func (.func 88) #[] #[]) ∧ h'.cell b3 2 = some (.func (.func 90) #[] #[]) ∧ h'.row b5 2 3 = some (crow z.mn) ∧ h'.row b5 5 3 = some (crow z.mx) := fun T => ⟨T.cell 1 rfl rfl, T.cell 1 rfl rfl, (z_at T 0 rfl).mn, (z_at T 0 rfl).mx⟩
  obtain ⟨a0, a1, a2, a3⟩ := F0 S2
  repeat (first | (with_reducible apply qzV; simp (disch := omega) only [coreA, Int.reduceBEq, bzS2, a0, a1, a2, a3] <;> with_reducible rfl) | (with_reducible first | apply qzT | apply qzF | apply qzG | apply qzH) | ((with_reducible first | apply qzB | apply qzC | apply qzD); simp (disch := omega) only [coreA, Int.reduceBEq, bzS2, a0, a1, a2, a3] <;> with_reducible rfl))
  rw [callV_fn1]
  with_reducible refine Tl.call' S2 (f88c (k := k + 29) z.mn h2) fun h3 S3 _ => ?_
  obtain ⟨c0, c1, c2, c3⟩ := F0 S3
  rw [callV_fn2]
  refine Tl.bind (f90c (k := k + 9) z.mn (by omega) (by omega) S3) ?_
  rintro ⟨v4, h4⟩ S4
  obtain ⟨d0, d1, d2, d3⟩ := F0 S4
  repeat (first | (with_reducible apply qzV; simp (disch := omega) only [coreA, Int.reduceBEq, bzS2, d0, d1, d2, d3] <;> with_reducible rfl) | (with_reducible first | apply qzT | apply qzF | apply qzG | apply qzH) | ((with_reducible first | apply qzB | apply qzC | apply qzD); simp (disch := omega) only [coreA, Int.reduceBEq, bzS2, d0, d1, d2, d3] <;> with_reducible rfl))
  rw [callV_fn1]
  with_reducible refine Tl.call' S4 (f88c (k := k + 29) z.mx h4) fun h5 S5 _ => ?_
  obtain ⟨e0, e1, e2, e3⟩ := F0 S5
  rw [callV_fn2]
  refine Tl.bind (f90c (k := k + 9) z.mx (by omega) (by rw [List.length_append]; omega) S5) ?_
  rintro ⟨v6, h6⟩ S6
  with_reducible refine Tl.chk ?_ ?_
  · simp only [ld31, ld96, ld98, Nat.zero_add, a0, a1, a2, a3, c0, c1, c2, c3, d0, d1, d2, d3, e0, e1, e2, e3, Option.map_some, aggC, sameO_some, sameC, sameF, Bool.and_self, Bool.not_true, Bool.or_true, Bool.true_and, Bool.false_or]
  refine ⟨_, rfl, ?_⟩
  rw [← List.append_assoc]
  exact S6.drop.drop
end
end Go.Proofs.YtghelamfaaakcaaGreat.Sh
