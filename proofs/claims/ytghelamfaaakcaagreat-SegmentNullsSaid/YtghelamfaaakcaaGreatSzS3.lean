/- Codecs: 'cells'. -/
import Derived.Test.YtghelamfaaakcaaGreatSzS2
import Derived.Test.YtghelamfaaakcaaGreatSzXf
import Derived.Test.YtghelamfaaakcaaGreatSzPb
set_option linter.unusedVariables false
set_option linter.unusedSimpArgs false
set_option maxRecDepth 100000
namespace Go.Proofs.YtghelamfaaakcaaGreat.Sh
open Go Go.RowKit Go.Proofs.Ev Go.Lib
theorem bzS3 : type_of% (And.intro @ld3 (And.intro @ld2 (And.intro @ld9 (And.intro @ld60 (And.intro @ld31 (And.intro @ld38 (And.intro @ld80 (And.intro @ld88 (And.intro @ld96 (And.intro @ld81 (And.intro @ld59 (And.intro @ld98 (And.intro @ld83 (And.intro @ld91 (And.intro @ld100 (And.intro @fa86_0 (And.intro @fa86_2 (And.intro @fa86_4 (And.intro @fa94_0 (And.intro @fa94_2 (And.intro @fa94_4 (And.intro @fa103_0 (And.intro @fa103_2 (And.intro @fa103_4 (And.intro @fa31_0 (And.intro @fa31_1 (And.intro @fa31_2 (And.intro @fa38_0 (And.intro @fa38_1 (And.intro @fa38_2 (And.intro @fa38_3 (And.intro (fun a h => conv_int (a := a) (h := h) u2 u60) (And.intro (fun a h => conv_int (a := a) (h := h) u60 u2) (And.intro (fun a h => conv_int (a := a) (h := h) u60 u5) (And.intro (fun a h => conv_int (a := a) (h := h) u3 u60) (And.intro @aggC (And.intro @wrapU (And.intro @ex2_0 (And.intro @ex2_1 (@Nat.add_zero)))))))))))))))))))))))))))))))))))))))) := And.intro @ld3 (And.intro @ld2 (And.intro @ld9 (And.intro @ld60 (And.intro @ld31 (And.intro @ld38 (And.intro @ld80 (And.intro @ld88 (And.intro @ld96 (And.intro @ld81 (And.intro @ld59 (And.intro @ld98 (And.intro @ld83 (And.intro @ld91 (And.intro @ld100 (And.intro @fa86_0 (And.intro @fa86_2 (And.intro @fa86_4 (And.intro @fa94_0 (And.intro @fa94_2 (And.intro @fa94_4 (And.intro @fa103_0 (And.intro @fa103_2 (And.intro @fa103_4 (And.intro @fa31_0 (And.intro @fa31_1 (And.intro @fa31_2 (And.intro @fa38_0 (And.intro @fa38_1 (And.intro @fa38_2 (And.intro @fa38_3 (And.intro (fun a h => conv_int (a := a) (h := h) u2 u60) (And.intro (fun a h => conv_int (a := a) (h := h) u60 u2) (And.intro (fun a h => conv_int (a := a) (h := h) u60 u5) (And.intro (fun a h => conv_int (a := a) (h := h) u3 u60) (And.intro @aggC (And.intro @wrapU (And.intro @ex2_0 (And.intro @ex2_1 (@Nat.add_zero)))))))))))))))))))))))))))))))))))))))
section
variable {n0 : Nat} {h0 h : AH} {L : List (Nat × AO)} {O : List OS}
theorem f85c {k : Nat} {h : AH} {v : Value} {l : List Nat} (A : Words h v l) (hl : l.length ≤ 65536) (hlk : l.length < k + 299) (hx : ∀ x ∈ l, x < 18446744073709551616) :
    Tl (eInv env (k + 302) (.func 85) #[] #[v] h) fun r => ∃ o, r.1 = .tuple #[o, .int .i64 (Pk.putE l 1)] ∧ Grow h r.2 ∧ OwnB Tryz.prog h.n r.2 o 1 (u8rows (Pk.putL l 1)) := by
  rw [F85_call]
  unfold F85
  refine Tl.bind (f49c (k := k) A hl hlk hx 1) ?_
  rintro ⟨r, h1⟩ ⟨o, er, g, X⟩
  simp only at er g X
  subst er
  repeat (first | (with_reducible apply qzV; simp (disch := omega) only [coreA, Int.reduceBEq, bzS3] <;> with_reducible rfl) | (with_reducible first | apply qzT | apply qzF | apply qzG | apply qzH) | ((with_reducible first | apply qzB | apply qzC | apply qzD); simp (disch := omega) only [coreA, Int.reduceBEq, bzS3] <;> with_reducible rfl))
  exact ⟨_, rfl, o, rfl, g, X⟩
def valsN (l : List CellD) : List Int := l.map fun c => c.i
theorem cellsN_loop {β : Type} {k : Nat} {Q : β → Prop} {h0 : AH} {b2 : Nat} {v : Value} {l : List CellD} (A : Cells h0 v l) (hl : l.length ≤ 4096) {ke0 : Value → Value → Value → Value → Value → Value → AH → Option β} (n : Nat) :
    ∀ {i j : Nat} {h : AH} {av : Value}, i + n = l.length → n < j → Stt Tryz.prog h0.n h0 h [(b2, .cells codNL 86 true)] [(av, 1, i6rows (valsN (l.take i)))] →
      (∀ h' av' y11 y12, Stt Tryz.prog h0.n h0 h' [(b2, .cells codNL 86 true)] [(av', 1, i6rows (valsN l))] → Tl (ke0 (ptr b2) av' v (.int .i64 l.length) y11 y12 h') Q) →
      Tl (F214_lrlrr (eInv env (k + 1)) (k + 1) j (ptr b2) av v (.int .i64 l.length) (.int .i64 i) h ke0) Q := by
  induction n with
  | zero =>
    intro i j h av hi hj T hk
    obtain ⟨j, rfl⟩ : ∃ q, j = q + 1 := ⟨j - 1, by omega⟩
    simp only [F214_lrlrr]
    repeat (first | (with_reducible apply qzV; simp (disch := omega) only [coreA, Int.reduceBEq, bzS3] <;> with_reducible rfl) | (with_reducible first | apply qzT | apply qzF | apply qzG | apply qzH) | ((with_reducible first | apply qzB | apply qzC | apply qzD); simp (disch := omega) only [coreA, Int.reduceBEq, bzS3] <;> with_reducible rfl))
    rw [List.take_of_length_le (by omega)] at T
    exact hk _ _ _ _ T
  | succ n ih =>
    intro i j h av hi hj T hk
    obtain ⟨j, rfl⟩ : ∃ q, j = q + 1 := ⟨j - 1, by omega⟩
    obtain ⟨c, hc⟩ : ∃ c, l[i]? = some c := ⟨_, List.getElem?_eq_getElem (by omega)⟩
    obtain ⟨b, o, hx, hr⟩ := (A.grow T.grow).at_ hc
    have e : (i : Int) + 1 = ((i + 1 : Nat) : Int) := by omega
    have hti : l.take (i + 1) = l.take i ++ [c] := by rw [List.take_add_one, hc]; rfl
    simp only [F214_lrlrr]
    unfold ptr
    repeat (first | (with_reducible apply qzV; simp (disch := omega) only [coreA, Int.reduceBEq, bzS3, hx, hr] <;> with_reducible rfl) | (with_reducible first | apply qzT | apply qzF | apply qzG | apply qzH) | ((with_reducible first | apply qzB | apply qzC | apply qzD); simp (disch := omega) only [coreA, Int.reduceBEq, bzS3, hx, hr] <;> with_reducible rfl))
    refine Tl.alloc' T ze31 rfl fun b4 h1 T1 _ => ?_
    refine Tl.store' T1 0 rfl sz31 rfl rfl (of_decide_eq_true rfl) fun h2 T2 _ => ?_
    have T2 : Stt Tryz.prog h0.n h0 h2 [Cr b4 c, (b2, .cells codNL 86 true)] [(av, 1, i6rows (valsN (l.take i)))] := T2
    obtain ⟨r4, _⟩ := c_at T2 0 rfl
    have q0 := T2.cell (o := 0) (v := .func (.func 72) #[] #[]) 1 rfl rfl
    repeat (first | (with_reducible apply qzV; simp (disch := omega) only [coreA, Int.reduceBEq, bzS3, r4, q0] <;> with_reducible rfl) | (with_reducible first | apply qzT | apply qzF | apply qzG | apply qzH) | ((with_reducible first | apply qzB | apply qzC | apply qzD); simp (disch := omega) only [coreA, Int.reduceBEq, bzS3, r4, q0] <;> with_reducible rfl))
    rw [callV_fn1]
    with_reducible refine Tl.call' T2 (f72c (k := k) c h2) fun h3 T3 _ => ?_
    refine Tl.push T3 0 rfl app121 (bs121 _ _) rfl rfl (by simp [i6rows, valsN]; omega) fun av' h5 T5 => ?_
    repeat (first | (with_reducible apply qzV; simp (disch := omega) only [coreA, Int.reduceBEq, bzS3] <;> with_reducible rfl) | (with_reducible first | apply qzT | apply qzF | apply qzG | apply qzH) | ((with_reducible first | apply qzB | apply qzC | apply qzD); simp (disch := omega) only [coreA, Int.reduceBEq, bzS3] <;> with_reducible rfl))
    rw [e]
    refine ih (by omega) (by omega) ?_ hk
    have e2 : i6rows (valsN (l.take i)) ++ [[i6v (c.i)]] = i6rows (valsN (l.take (i + 1))) := by rw [hti]; simp [i6rows, valsN]
    rw [← e2]
    exact T5.drop
/-- 'cells'. -/
theorem cellsN_c {k : Nat} {h : AH} {v : Value} {l : List CellD} (A : Cells h v l) (hl : l.length ≤ 4096) (hk : 4096 < k) :
    Tl (eInv env (k + 602) (.method "shadowbook/segment.cells") #[] #[.iface 86 (.agg codNL.toArray), v] h) fun r => ∃ o, r.1 = .tuple #[o, .int .i64 (0)] ∧ Stt Tryz.prog h.n h r.2 [] [(o, 1, u8rows (putI (valsN l)))] := by
  rw [show eInv env (k + 602) (.method "shadowbook/segment.cells") #[] #[.iface 86 (.agg codNL.toArray), v] h = F214 (eInv env (k + 601)) (k + 601) (.agg codNL.toArray) v h from
    (by kernel_rfl : _ = eFun env (k + 601) (eInv env (k + 601)) 214 #[.agg codNL.toArray, v] h).trans F214_eq]
  unfold F214
  refine Tl.box' (Stt.init h) rfl isN fun b2 h1 S1 _ => ?_
  have S1 : Stt Tryz.prog h.n h h1 [(b2, .cells codNL 86 true)] [] := S1
  have hv : ∀ h' : AH, pLen Tryz.prog #[22] v h' = some (.int .i64 l.length) := fun h' => A.len
  repeat (first | (with_reducible apply qzV; simp (disch := omega) only [coreA, Int.reduceBEq, bzS3, hv] <;> with_reducible rfl) | (with_reducible first | apply qzT | apply qzF | apply qzG | apply qzH) | ((with_reducible first | apply qzB | apply qzC | apply qzD); simp (disch := omega) only [coreA, Int.reduceBEq, bzS3, hv] <;> with_reducible rfl))
  refine cellsN_loop (k := k + 600) (i := 0) A hl l.length (by omega) (by omega) (S1.nil 1) fun h2 av y11 y12 S2 => ?_
  have q4 := S2.cell (o := 4) (v := .func (.func 78) #[] #[]) 0 rfl rfl
  unfold ptr
  repeat (first | (with_reducible apply qzV; simp (disch := omega) only [coreA, Int.reduceBEq, bzS3, q4] <;> with_reducible rfl) | (with_reducible first | apply qzT | apply qzF | apply qzG | apply qzH) | ((with_reducible first | apply qzB | apply qzC | apply qzD); simp (disch := omega) only [coreA, Int.reduceBEq, bzS3, q4] <;> with_reducible rfl))
  rw [callV_fn1]
  have B : Ints h2 av (valsN l) := S2.sl1 (f := i6v) 0 rfl
  refine Tl.bind (f78s (k := k + 100) B (by simp [valsN]; omega) (by simp [valsN]; omega)) ?_
  rintro ⟨r, h3⟩ ⟨o, er, X⟩
  simp only at er X
  subst er
  repeat (first | (with_reducible apply qzV; simp (disch := omega) only [coreA, Int.reduceBEq, bzS3] <;> with_reducible rfl) | (with_reducible first | apply qzT | apply qzF | apply qzG | apply qzH) | ((with_reducible first | apply qzB | apply qzC | apply qzD); simp (disch := omega) only [coreA, Int.reduceBEq, bzS3] <;> with_reducible rfl))
  exact ⟨_, rfl, o, rfl, ((S2.drop.join X).keepO (.cons_cons _ (List.nil_sublist _)))⟩
def valsT (l : List CellD) : List Nat := l.map fun c => toU c.i
theorem cellsT_loop {β : Type} {k : Nat} {Q : β → Prop} {h0 : AH} {b2 : Nat} {v : Value} {l : List CellD} (A : Cells h0 v l) (hl : l.length ≤ 4096) {ke0 : Value → Value → Value → Value → Value → Value → AH → Option β} (n : Nat) :
    ∀ {i j : Nat} {h : AH} {av : Value}, i + n = l.length → n < j → Stt Tryz.prog h0.n h0 h [(b2, .cells codTL 94 true)] [(av, 1, u64rows (valsT (l.take i)))] →
      (∀ h' av' y11 y12, Stt Tryz.prog h0.n h0 h' [(b2, .cells codTL 94 true)] [(av', 1, u64rows (valsT l))] → Tl (ke0 (ptr b2) av' v (.int .i64 l.length) y11 y12 h') Q) →
      Tl (F218_lrlrr (eInv env (k + 1)) (k + 1) j (ptr b2) av v (.int .i64 l.length) (.int .i64 i) h ke0) Q := by
  induction n with
  | zero =>
    intro i j h av hi hj T hk
    obtain ⟨j, rfl⟩ : ∃ q, j = q + 1 := ⟨j - 1, by omega⟩
    simp only [F218_lrlrr]
    repeat (first | (with_reducible apply qzV; simp (disch := omega) only [coreA, Int.reduceBEq, bzS3] <;> with_reducible rfl) | (with_reducible first | apply qzT | apply qzF | apply qzG | apply qzH) | ((with_reducible first | apply qzB | apply qzC | apply qzD); simp (disch := omega) only [coreA, Int.reduceBEq, bzS3] <;> with_reducible rfl))
    rw [List.take_of_length_le (by omega)] at T
    exact hk _ _ _ _ T
  | succ n ih =>
    intro i j h av hi hj T hk
    obtain ⟨j, rfl⟩ : ∃ q, j = q + 1 := ⟨j - 1, by omega⟩
    obtain ⟨c, hc⟩ : ∃ c, l[i]? = some c := ⟨_, List.getElem?_eq_getElem (by omega)⟩
    obtain ⟨b, o, hx, hr⟩ := (A.grow T.grow).at_ hc
    have e : (i : Int) + 1 = ((i + 1 : Nat) : Int) := by omega
    have hti : l.take (i + 1) = l.take i ++ [c] := by rw [List.take_add_one, hc]; rfl
    simp only [F218_lrlrr]
    unfold ptr
    repeat (first | (with_reducible apply qzV; simp (disch := omega) only [coreA, Int.reduceBEq, bzS3, hx, hr] <;> with_reducible rfl) | (with_reducible first | apply qzT | apply qzF | apply qzG | apply qzH) | ((with_reducible first | apply qzB | apply qzC | apply qzD); simp (disch := omega) only [coreA, Int.reduceBEq, bzS3, hx, hr] <;> with_reducible rfl))
    refine Tl.alloc' T ze31 rfl fun b4 h1 T1 _ => ?_
    refine Tl.store' T1 0 rfl sz31 rfl rfl (of_decide_eq_true rfl) fun h2 T2 _ => ?_
    have T2 : Stt Tryz.prog h0.n h0 h2 [Cr b4 c, (b2, .cells codTL 94 true)] [(av, 1, u64rows (valsT (l.take i)))] := T2
    obtain ⟨r4, _⟩ := c_at T2 0 rfl
    have q0 := T2.cell (o := 0) (v := .func (.func 81) #[] #[]) 1 rfl rfl
    repeat (first | (with_reducible apply qzV; simp (disch := omega) only [coreA, Int.reduceBEq, bzS3, r4, q0] <;> with_reducible rfl) | (with_reducible first | apply qzT | apply qzF | apply qzG | apply qzH) | ((with_reducible first | apply qzB | apply qzC | apply qzD); simp (disch := omega) only [coreA, Int.reduceBEq, bzS3, r4, q0] <;> with_reducible rfl))
    rw [callV_fn1]
    with_reducible refine Tl.call' T2 (f81c (k := k) c h2) fun h3 T3 _ => ?_
    refine Tl.push T3 0 rfl app63 (bs63 _ _) rfl rfl (by simp [u64rows, valsT]; omega) fun av' h5 T5 => ?_
    repeat (first | (with_reducible apply qzV; simp (disch := omega) only [coreA, Int.reduceBEq, bzS3] <;> with_reducible rfl) | (with_reducible first | apply qzT | apply qzF | apply qzG | apply qzH) | ((with_reducible first | apply qzB | apply qzC | apply qzD); simp (disch := omega) only [coreA, Int.reduceBEq, bzS3] <;> with_reducible rfl))
    rw [e]
    refine ih (by omega) (by omega) ?_ hk
    have e2 : u64rows (valsT (l.take i)) ++ [[u64v (toU c.i)]] = u64rows (valsT (l.take (i + 1))) := by rw [hti]; simp [u64rows, valsT]
    rw [← e2]
    exact T5.drop
/-- 'cells'. -/
theorem cellsT_c {k : Nat} {h : AH} {v : Value} {l : List CellD} (A : Cells h v l) (hl : l.length ≤ 4096) (hk : 4096 < k) :
    Tl (eInv env (k + 602) (.method "shadowbook/segment.cells") #[] #[.iface 94 (.agg codTL.toArray), v] h) fun r => ∃ o, r.1 = .tuple #[o, .int .i64 (Pk.putE (valsT l) 1)] ∧ Stt Tryz.prog h.n h r.2 [] [(o, 1, u8rows (Pk.putL (valsT l) 1))] := by
  rw [show eInv env (k + 602) (.method "shadowbook/segment.cells") #[] #[.iface 94 (.agg codTL.toArray), v] h = F218 (eInv env (k + 601)) (k + 601) (.agg codTL.toArray) v h from
    (by kernel_rfl : _ = eFun env (k + 601) (eInv env (k + 601)) 218 #[.agg codTL.toArray, v] h).trans F218_eq]
  unfold F218
  refine Tl.box' (Stt.init h) rfl isT fun b2 h1 S1 _ => ?_
  have S1 : Stt Tryz.prog h.n h h1 [(b2, .cells codTL 94 true)] [] := S1
  have hv : ∀ h' : AH, pLen Tryz.prog #[22] v h' = some (.int .i64 l.length) := fun h' => A.len
  repeat (first | (with_reducible apply qzV; simp (disch := omega) only [coreA, Int.reduceBEq, bzS3, hv] <;> with_reducible rfl) | (with_reducible first | apply qzT | apply qzF | apply qzG | apply qzH) | ((with_reducible first | apply qzB | apply qzC | apply qzD); simp (disch := omega) only [coreA, Int.reduceBEq, bzS3, hv] <;> with_reducible rfl))
  refine cellsT_loop (k := k + 600) (i := 0) A hl l.length (by omega) (by omega) (S1.nil 1) fun h2 av y11 y12 S2 => ?_
  have q4 := S2.cell (o := 4) (v := .func (.func 85) #[] #[]) 0 rfl rfl
  unfold ptr
  repeat (first | (with_reducible apply qzV; simp (disch := omega) only [coreA, Int.reduceBEq, bzS3, q4] <;> with_reducible rfl) | (with_reducible first | apply qzT | apply qzF | apply qzG | apply qzH) | ((with_reducible first | apply qzB | apply qzC | apply qzD); simp (disch := omega) only [coreA, Int.reduceBEq, bzS3, q4] <;> with_reducible rfl))
  rw [callV_fn1]
  have B : Words h2 av (valsT l) := S2.sl1 (f := u64v) 0 rfl
  refine Tl.bind (f85c (k := k + 299) B (by simp [valsT]; omega) (by simp [valsT]; omega) (fun q hq => ?_)) ?_
  · obtain ⟨c, _, rfl⟩ := List.mem_map.1 hq
    exact toU_lt _
  rintro ⟨r, h3⟩ ⟨o, er, g, X⟩
  simp only at er g X
  subst er
  repeat (first | (with_reducible apply qzV; simp (disch := omega) only [coreA, Int.reduceBEq, bzS3] <;> with_reducible rfl) | (with_reducible first | apply qzT | apply qzF | apply qzG | apply qzH) | ((with_reducible first | apply qzB | apply qzC | apply qzD); simp (disch := omega) only [coreA, Int.reduceBEq, bzS3] <;> with_reducible rfl))
  exact ⟨_, rfl, o, rfl, ((S2.drop.gain g X).keepO (.cons_cons _ (List.nil_sublist _)))⟩
def valsW (l : List CellD) : List ByteArray := l.map fun c => c.s
theorem cellsW_loop {β : Type} {k : Nat} {Q : β → Prop} {h0 : AH} {b2 : Nat} {v : Value} {l : List CellD} (A : Cells h0 v l) (hl : l.length ≤ 4096) {ke0 : Value → Value → Value → Value → Value → Value → AH → Option β} (n : Nat) :
    ∀ {i j : Nat} {h : AH} {av : Value}, i + n = l.length → n < j → Stt Tryz.prog h0.n h0 h [(b2, .cells codWL 103 true)] [(av, 1, srows (valsW (l.take i)))] →
      (∀ h' av' y11 y12, Stt Tryz.prog h0.n h0 h' [(b2, .cells codWL 103 true)] [(av', 1, srows (valsW l))] → Tl (ke0 (ptr b2) av' v (.int .i64 l.length) y11 y12 h') Q) →
      Tl (F222_lrlrr (eInv env (k + 1)) (k + 1) j (ptr b2) av v (.int .i64 l.length) (.int .i64 i) h ke0) Q := by
  induction n with
  | zero =>
    intro i j h av hi hj T hk
    obtain ⟨j, rfl⟩ : ∃ q, j = q + 1 := ⟨j - 1, by omega⟩
    simp only [F222_lrlrr]
    repeat (first | (with_reducible apply qzV; simp (disch := omega) only [coreA, Int.reduceBEq, bzS3] <;> with_reducible rfl) | (with_reducible first | apply qzT | apply qzF | apply qzG | apply qzH) | ((with_reducible first | apply qzB | apply qzC | apply qzD); simp (disch := omega) only [coreA, Int.reduceBEq, bzS3] <;> with_reducible rfl))
    rw [List.take_of_length_le (by omega)] at T
    exact hk _ _ _ _ T
  | succ n ih =>
    intro i j h av hi hj T hk
    obtain ⟨j, rfl⟩ : ∃ q, j = q + 1 := ⟨j - 1, by omega⟩
    obtain ⟨c, hc⟩ : ∃ c, l[i]? = some c := ⟨_, List.getElem?_eq_getElem (by omega)⟩
    obtain ⟨b, o, hx, hr⟩ := (A.grow T.grow).at_ hc
    have e : (i : Int) + 1 = ((i + 1 : Nat) : Int) := by omega
    have hti : l.take (i + 1) = l.take i ++ [c] := by rw [List.take_add_one, hc]; rfl
    simp only [F222_lrlrr]
    unfold ptr
    repeat (first | (with_reducible apply qzV; simp (disch := omega) only [coreA, Int.reduceBEq, bzS3, hx, hr] <;> with_reducible rfl) | (with_reducible first | apply qzT | apply qzF | apply qzG | apply qzH) | ((with_reducible first | apply qzB | apply qzC | apply qzD); simp (disch := omega) only [coreA, Int.reduceBEq, bzS3, hx, hr] <;> with_reducible rfl))
    refine Tl.alloc' T ze31 rfl fun b4 h1 T1 _ => ?_
    refine Tl.store' T1 0 rfl sz31 rfl rfl (of_decide_eq_true rfl) fun h2 T2 _ => ?_
    have T2 : Stt Tryz.prog h0.n h0 h2 [Cr b4 c, (b2, .cells codWL 103 true)] [(av, 1, srows (valsW (l.take i)))] := T2
    obtain ⟨r4, _⟩ := c_at T2 0 rfl
    have q0 := T2.cell (o := 0) (v := .func (.func 88) #[] #[]) 1 rfl rfl
    repeat (first | (with_reducible apply qzV; simp (disch := omega) only [coreA, Int.reduceBEq, bzS3, r4, q0] <;> with_reducible rfl) | (with_reducible first | apply qzT | apply qzF | apply qzG | apply qzH) | ((with_reducible first | apply qzB | apply qzC | apply qzD); simp (disch := omega) only [coreA, Int.reduceBEq, bzS3, r4, q0] <;> with_reducible rfl))
    rw [callV_fn1]
    with_reducible refine Tl.call' T2 (f88c (k := k) c h2) fun h3 T3 _ => ?_
    refine Tl.push T3 0 rfl app122 (bs122 _ _) rfl rfl (by simp [srows, valsW]; omega) fun av' h5 T5 => ?_
    repeat (first | (with_reducible apply qzV; simp (disch := omega) only [coreA, Int.reduceBEq, bzS3] <;> with_reducible rfl) | (with_reducible first | apply qzT | apply qzF | apply qzG | apply qzH) | ((with_reducible first | apply qzB | apply qzC | apply qzD); simp (disch := omega) only [coreA, Int.reduceBEq, bzS3] <;> with_reducible rfl))
    rw [e]
    refine ih (by omega) (by omega) ?_ hk
    have e2 : srows (valsW (l.take i)) ++ [[Value.string (c.s)]] = srows (valsW (l.take (i + 1))) := by rw [hti]; simp [srows, valsW]
    rw [← e2]
    exact T5.drop
/-- 'cells'. -/
theorem cellsW_c {k : Nat} {h : AH} {v : Value} {l : List CellD} (A : Cells h v l) (hl : l.length ≤ 4096) (hk : 4096 < k) :
    Tl (eInv env (k + 602) (.method "shadowbook/segment.cells") #[] #[.iface 103 (.agg codWL.toArray), v] h) fun r => ∃ o, r.1 = .tuple #[o, .int .i64 (checkT (valsW l))] ∧ Stt Tryz.prog h.n h r.2 [] [(o, 1, u8rows (putT (valsW l)))] := by
  rw [show eInv env (k + 602) (.method "shadowbook/segment.cells") #[] #[.iface 103 (.agg codWL.toArray), v] h = F222 (eInv env (k + 601)) (k + 601) (.agg codWL.toArray) v h from
    (by kernel_rfl : _ = eFun env (k + 601) (eInv env (k + 601)) 222 #[.agg codWL.toArray, v] h).trans F222_eq]
  unfold F222
  refine Tl.box' (Stt.init h) rfl isW fun b2 h1 S1 _ => ?_
  have S1 : Stt Tryz.prog h.n h h1 [(b2, .cells codWL 103 true)] [] := S1
  have hv : ∀ h' : AH, pLen Tryz.prog #[22] v h' = some (.int .i64 l.length) := fun h' => A.len
  repeat (first | (with_reducible apply qzV; simp (disch := omega) only [coreA, Int.reduceBEq, bzS3, hv] <;> with_reducible rfl) | (with_reducible first | apply qzT | apply qzF | apply qzG | apply qzH) | ((with_reducible first | apply qzB | apply qzC | apply qzD); simp (disch := omega) only [coreA, Int.reduceBEq, bzS3, hv] <;> with_reducible rfl))
  refine cellsW_loop (k := k + 600) (i := 0) A hl l.length (by omega) (by omega) (S1.nil 1) fun h2 av y11 y12 S2 => ?_
  have q4 := S2.cell (o := 4) (v := .func (.func 93) #[] #[]) 0 rfl rfl
  unfold ptr
  repeat (first | (with_reducible apply qzV; simp (disch := omega) only [coreA, Int.reduceBEq, bzS3, q4] <;> with_reducible rfl) | (with_reducible first | apply qzT | apply qzF | apply qzG | apply qzH) | ((with_reducible first | apply qzB | apply qzC | apply qzD); simp (disch := omega) only [coreA, Int.reduceBEq, bzS3, q4] <;> with_reducible rfl))
  rw [callV_fn1]
  have B : Strs h2 av (valsW l) := S2.sl1 (f := Value.string) 0 rfl
  refine Tl.bind (f93c (k := k + 200) B (by simp [valsW]; omega) (by omega)) ?_
  rintro ⟨r, h3⟩ ⟨o, er, X⟩
  simp only at er X
  subst er
  repeat (first | (with_reducible apply qzV; simp (disch := omega) only [coreA, Int.reduceBEq, bzS3] <;> with_reducible rfl) | (with_reducible first | apply qzT | apply qzF | apply qzG | apply qzH) | ((with_reducible first | apply qzB | apply qzC | apply qzD); simp (disch := omega) only [coreA, Int.reduceBEq, bzS3] <;> with_reducible rfl))
  exact ⟨_, rfl, o, rfl, ((S2.drop.join X).keepO (.cons_cons _ (List.nil_sublist _)))⟩
end
end Go.Proofs.YtghelamfaaakcaaGreat.Sh
