/- 'SegmentNulls' comes to true: the whole. -/
import Derived.Test.YtghelamfaaakcaaGreatSzS8
set_option linter.unusedVariables false
set_option linter.unusedSimpArgs false
set_option maxRecDepth 100000
namespace Go.Proofs.YtghelamfaaakcaaGreat.Sh
open Go Go.RowKit Go.Proofs.Ev Go.Lib
theorem bzS9 : type_of% (And.intro @ld3 (And.intro @ld2 (And.intro @ld9 (And.intro @ld4 (And.intro @ld31 (And.intro @fa31_0 (And.intro @fa31_1 (And.intro @fa31_2 (And.intro @aggC (And.intro @ex2_0 (And.intro @ex2_1 (@Nat.add_zero)))))))))))) := And.intro @ld3 (And.intro @ld2 (And.intro @ld9 (And.intro @ld4 (And.intro @ld31 (And.intro @fa31_0 (And.intro @fa31_1 (And.intro @fa31_2 (And.intro @aggC (And.intro @ex2_0 (And.intro @ex2_1 (@Nat.add_zero)))))))))))
theorem f3 {k : Nat} {h : AH} {v : Value} {l : List CellD} (A : Cells h v l) (hl : l.length ≤ 9223372036854775807) (kind z : Int) (hz : -9223372036854775808 ≤ z ∧ z ≤ 9223372036854775807) :
    Tl (F3 (eInv env (k + 6000)) (k + 6000) (.int .i64 kind) v (.int .i64 z) h) fun r => r.1 = .bool true := by
  unfold F3
  obtain ⟨bl, el, hb⟩ := f10c (k := k + 5998) A hl (by omega)
  cases bl
  · repeat (first | (with_reducible apply qzV; simp (disch := omega) only [coreA, Int.reduceBEq, bzS9, lives_call, el] <;> with_reducible rfl) | (with_reducible first | apply qzT | apply qzF | apply qzG | apply qzH) | ((with_reducible first | apply qzB | apply qzC | apply qzD); simp (disch := omega) only [coreA, Int.reduceBEq, bzS9, lives_call, el] <;> with_reducible rfl))
    exact ⟨_, rfl, rfl⟩
  have hl := hb rfl
  have hlv := lives_call (k := k + 5999) (h := h)
  repeat (first | (with_reducible apply qzV; simp (disch := omega) only [coreA, Int.reduceBEq, bzS9, hlv, el] <;> with_reducible rfl) | (with_reducible first | apply qzT | apply qzF | apply qzG | apply qzH) | ((with_reducible first | apply qzB | apply qzC | apply qzD); simp (disch := omega) only [coreA, Int.reduceBEq, bzS9, hlv, el] <;> with_reducible rfl))
  with_reducible refine Tl.call' (Stt.init (P := Tryz.prog) h) (f11c (k := k + 5997) kind A (by omega) (by omega)) fun h1 S1 g1 => ?_
  by_cases e0 : ¬ segE kind l = 0
  · repeat (first | (with_reducible apply qzV; simp (disch := omega) only [coreA, Int.reduceBEq, bzS9] <;> with_reducible rfl) | (with_reducible first | apply qzT | apply qzF | apply qzG | apply qzH) | ((with_reducible first | apply qzB | apply qzC | apply qzD); simp (disch := omega) only [coreA, Int.reduceBEq, bzS9] <;> with_reducible rfl))
    exact ⟨_, rfl, rfl⟩
  have e0 : segE kind l = 0 := Classical.not_not.1 e0
  obtain ⟨hkd, _, hall⟩ := segE_zero.1 e0
  obtain ⟨w, hw, ew⟩ := f12c (k := k + 5999) z hz (n := 200) (by omega) (by omega) h1
  have ew' : eInv env (k + 6000) (.func 12) #[] #[.int .i64 z, .int .i64 200] h1 = some (.int .i64 (w : Int), h1) := ew
  repeat (first | (with_reducible apply qzV; simp (disch := omega) only [coreA, Int.reduceBEq, bzS9, ew'] <;> with_reducible rfl) | (with_reducible first | apply qzT | apply qzF | apply qzG | apply qzH) | ((with_reducible first | apply qzB | apply qzC | apply qzD); simp (disch := omega) only [coreA, Int.reduceBEq, bzS9, ew'] <;> with_reducible rfl))
  have e1w : (1 : Int) + (w : Int) = ((w + 1 : Nat) : Int) := by omega
  rw [e1w]
  refine Tl.make' ((S1.nil 3).nil 3) appCs ze31 (by omega) (by omega) fun nv h2 S2 g2 => ?_
  have S2 : Stt Tryz.prog h.n h h2 [] [(nv, 3, crows (List.replicate (w + 1) c0)), (.slice none 0 0, 3, crows (vals (l.take 0))), (.slice none 0 0, 3, crows (more (vals (l.take 0))))] := by
    have e : crows (List.replicate (w + 1) c0) = List.replicate (w + 1) (crow c0) := by simp [crows]
    rw [e]
    exact S2
  have An : Cells h2 nv (List.replicate (w + 1) c0) := (S2.slV 0 rfl).z
  with_reducible refine Tl.call' S2 (f13c (k := k + 5299) kind An (by simp; omega) (by omega)) fun h3 S3 g3 => ?_
  have n0 := segE_nulls hkd (n := w + 1) (by omega)
  have nl := segB_nulls (kind := kind) (n := w + 1) (by omega) (by omega)
  rw [n0, if_pos rfl]
  repeat (first | (with_reducible apply qzV; simp (disch := omega) only [coreA, Int.reduceBEq, bzS9] <;> with_reducible rfl) | (with_reducible first | apply qzT | apply qzF | apply qzG | apply qzH) | ((with_reducible first | apply qzB | apply qzC | apply qzD); simp (disch := omega) only [coreA, Int.reduceBEq, bzS9] <;> with_reducible rfl))
  refine f3_loop1 (i := 0) (O := [(nv, 3, crows (List.replicate (w + 1) c0))]) A hl l.length (by omega) (by omega) (permO S3 ?_) fun h4 sv mv y1 y2 S4 => ?_
  · exact (List.Perm.swap _ _ _).trans (.cons _ (.swap _ _ _))
  obtain ⟨v0, m0⟩ := segE_vals e0 hl
  have hvl := vals_le l
  have hml := more_len (vals l)
  have As : Cells h4 sv (vals l) := (S4.slV 0 rfl).z
  with_reducible refine Tl.call' S4 (f13c (k := k + 5299) kind As (by omega) (by omega)) fun h5 S5 g5 => ?_
  rw [v0, if_pos rfl]
  repeat (first | (with_reducible apply qzV; simp (disch := omega) only [coreA, Int.reduceBEq, bzS9] <;> with_reducible rfl) | (with_reducible first | apply qzT | apply qzF | apply qzG | apply qzH) | ((with_reducible first | apply qzB | apply qzC | apply qzD); simp (disch := omega) only [coreA, Int.reduceBEq, bzS9] <;> with_reducible rfl))
  have Am : Cells h5 mv (more (vals l)) := (S5.slV 1 rfl).z
  with_reducible refine Tl.call' S5 (f13c (k := k + 5299) kind Am (by omega) (by omega)) fun h6 S6 g6 => ?_
  rw [m0, if_pos rfl]
  have ls : ∀ h' : AH, pLen Tryz.prog #[22] sv h' = some (.int .i64 (vals l).length) := fun h' => As.len
  have lm : ∀ h' : AH, pLen Tryz.prog #[22] mv h' = some (.int .i64 (more (vals l)).length) := fun h' => Am.len
  repeat (first | (with_reducible apply qzV; simp (disch := omega) only [coreA, Int.reduceBEq, bzS9, ls] <;> with_reducible rfl) | (with_reducible first | apply qzT | apply qzF | apply qzG | apply qzH) | ((with_reducible first | apply qzB | apply qzC | apply qzD); simp (disch := omega) only [coreA, Int.reduceBEq, bzS9, ls] <;> with_reducible rfl))
  refine Tl.make' S6 app32 ze4 (by omega) (by omega) fun av h7 S7 g7 => ?_
  repeat (first | (with_reducible apply qzV; simp (disch := omega) only [coreA, Int.reduceBEq, bzS9, lm] <;> with_reducible rfl) | (with_reducible first | apply qzT | apply qzF | apply qzG | apply qzH) | ((with_reducible first | apply qzB | apply qzC | apply qzD); simp (disch := omega) only [coreA, Int.reduceBEq, bzS9, lm] <;> with_reducible rfl))
  refine Tl.make' S7 app32 ze4 (by omega) (by omega) fun wv h8 S8 g8 => ?_
  have S8 : Stt Tryz.prog h.n h h8 [] [(wv, 1, brows (wd 0 ++ List.replicate (2 * (vals l).length) false)), (av, 1, brows (List.replicate (vals l).length false)), (sv, 3, crows (vals l)), (mv, 3, crows (more (vals l))), (nv, 3, crows (List.replicate (w + 1) c0))] := by
    have e1 : brows (wd 0 ++ List.replicate (2 * (vals l).length) false) = List.replicate (more (vals l)).length [.bool false] := by rw [hml]; simp [brows, bv, wd]
    have e2 : brows (List.replicate (vals l).length false) = List.replicate (vals l).length [.bool false] := by simp [brows, bv]
    rw [e1, e2]
    exact S8
  refine f3_loop2 (i := 0) (m := (vals l).length) (by omega) (vals l).length (by omega) (by omega) S8 fun h9 y1 y2 S9 => ?_
  refine Tl.bind (f14c (k := k + 5500) (S9.sl1 (f := bv) 1 rfl) (by simp; omega) (by simp; omega)) ?_
  rintro ⟨r, h10⟩ ⟨xv, er, g10, X⟩
  simp only at er g10 X
  subst er
  have S10 := S9.gain g10 X
  repeat (first | (with_reducible apply qzV; simp (disch := omega) only [coreA, Int.reduceBEq, bzS9] <;> with_reducible rfl) | (with_reducible first | apply qzT | apply qzF | apply qzG | apply qzH) | ((with_reducible first | apply qzB | apply qzC | apply qzD); simp (disch := omega) only [coreA, Int.reduceBEq, bzS9] <;> with_reducible rfl))
  have wl := wd_len (vals l).length
  refine Tl.bind (f14c (k := k + 5500) (S10.sl1 (f := bv) 1 rfl) (by omega) (by omega)) ?_
  rintro ⟨r, h11⟩ ⟨yv, er, g11, Y⟩
  simp only at er g11 Y
  subst er
  have S11 := S10.gain g11 Y
  have BX : Bytes h11 xv (putV (List.replicate (vals l).length false)) := S11.sl1 (f := u8v) 1 rfl
  have BY : Bytes h11 yv (putV (wd (vals l).length)) := S11.sl1 (f := u8v) 0 rfl
  have lx : ∀ h' : AH, pLen Tryz.prog #[33] xv h' = some (.int .i64 (putV (List.replicate (vals l).length false)).length) := fun h' => BX.len
  have ly : ∀ h' : AH, pLen Tryz.prog #[33] yv h' = some (.int .i64 (putV (wd (vals l).length)).length) := fun h' => BY.len
  have p1 := putV_len (l := List.replicate (vals l).length false) (by simp; omega)
  have p2 := putV_len (l := wd (vals l).length) (by omega)
  have l1 : ∀ h' : AH, pLen Tryz.prog #[9] (.string (strB (segB kind (List.replicate (w + 1) c0)))) h' = some (.int .i64 (segB kind (List.replicate (w + 1) c0)).length) := fun h' => by rw [len_string u9, strB_size]; rfl
  have l2 : ∀ h' : AH, pLen Tryz.prog #[9] (.string (strB (segB kind (vals l)))) h' = some (.int .i64 (segB kind (vals l)).length) := fun h' => by rw [len_string u9, strB_size]; rfl
  have l3 : ∀ h' : AH, pLen Tryz.prog #[9] (.string (strB (segB kind (more (vals l))))) h' = some (.int .i64 (segB kind (more (vals l))).length) := fun h' => by rw [len_string u9, strB_size]; rfl
  have q2 : 1 + (putV (List.replicate (vals l).length false)).length ≤ (segB kind (vals l)).length := by rw [segB_vals]; simp; omega
  have q3 : 1 + (putV (wd (vals l).length)).length ≤ (segB kind (more (vals l))).length := by rw [segB_more]; simp; omega
  have c1 := fun h' => cut_lo q2 h'
  have c2 := fun h' => cut_lo q3 h'
  have c3 := fun h' => cut_mid (a := 1) (b := 1 + (putV (wd (vals l).length)).length) (by omega) q3 h'
  have d1 : (segB kind (vals l)).drop (1 + (putV (List.replicate (vals l).length false)).length) = tailB kind (vals l) := by rw [segB_vals]; exact cut_tail
  have d2 : (segB kind (more (vals l))).drop (1 + (putV (wd (vals l).length)).length) = tailB kind (vals l) := by rw [segB_more]; exact cut_tail
  have d3 : ((segB kind (more (vals l))).take (1 + (putV (wd (vals l).length)).length)).drop 1 = putV (wd (vals l).length) := by rw [segB_more]; exact cut_head
  rw [d1] at c1
  rw [d2] at c2
  rw [d3] at c3
  have i1 : ((1 + (putV (List.replicate (vals l).length false)).length : Nat) : Int) = 1 + ((putV (List.replicate (vals l).length false)).length : Int) := by omega
  have i2 : ((1 + (putV (wd (vals l).length)).length : Nat) : Int) = 1 + ((putV (wd (vals l).length)).length : Int) := by omega
  rw [i1] at c1
  rw [i2] at c2 c3
  rw [show ((1 : Nat) : Int) = 1 from rfl] at c3
  have cb := convB BY
  have es : ∀ (a : ByteArray) x y, pBin Tryz.prog .eql 9 x y (.string a) (.string a) = some (.bool true) := fun a x y => by rw [bin_eql_string]; simp
  have t1 : decide (((segB kind (List.replicate (w + 1) c0)).length : Int) ≤ 4) = true := by simp; omega
  have t2 : decide (((segB kind (vals l)).length : Int) ≥ 1 + ((putV (List.replicate (vals l).length false)).length : Int)) = true := by simp; omega
  have t3 : decide (((segB kind (more (vals l))).length : Int) ≥ 1 + ((putV (wd (vals l).length)).length : Int)) = true := by simp; omega
  have w1 : IntKind.i64.wrap (1 + ((putV (List.replicate (vals l).length false)).length : Int)) = 1 + ((putV (List.replicate (vals l).length false)).length : Int) := wr_i64 (by omega)
  have w2 : IntKind.i64.wrap (1 + ((putV (wd (vals l).length)).length : Int)) = 1 + ((putV (wd (vals l).length)).length : Int) := wr_i64 (by omega)
  repeat (first | (with_reducible apply qzV; simp (disch := omega) only [coreA, Int.reduceBEq, bzS9, lx, ly, l1, l2, l3, c1, c2, c3, cb, es, t1, t2, t3, w1, w2] <;> with_reducible rfl) | (with_reducible first | apply qzT | apply qzF | apply qzG | apply qzH) | ((with_reducible first | apply qzB | apply qzC | apply qzD); simp (disch := omega) only [coreA, Int.reduceBEq, bzS9, lx, ly, l1, l2, l3, c1, c2, c3, cb, es, t1, t2, t3, w1, w2] <;> with_reducible rfl))
  exact ⟨_, rfl, rfl⟩
end Go.Proofs.YtghelamfaaakcaaGreat.Sh
