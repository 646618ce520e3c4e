/- What the functions of the ints' package come to: 'Plain', 'Runs', 'Packed'. -/
import Derived.Test.YtghelamfaaakcaaGreatSzPb
set_option linter.unusedVariables false
set_option linter.unusedSimpArgs false
set_option maxRecDepth 100000
namespace Go.Proofs.YtghelamfaaakcaaGreat.Sh
open Go Go.RowKit Go.Proofs.Ev
theorem bzIa : type_of% (And.intro @ld3 (And.intro @ld2 (And.intro @ld4 (And.intro @ld5 (And.intro @ld60 (And.intro @ld33 (And.intro @ld121 (And.intro @ld63 (And.intro (fun a h => conv_int (a := a) (h := h) u3 u60) (And.intro (fun a h => conv_int (a := a) (h := h) u2 u60) (And.intro (fun a h => conv_int (a := a) (h := h) u60 u5) (And.intro (fun a h => conv_int (a := a) (h := h) u60 u2) (And.intro (fun a h => conv_int (a := a) (h := h) u3 u5) (And.intro @ex2_0 (@ex2_1))))))))))))))) := And.intro @ld3 (And.intro @ld2 (And.intro @ld4 (And.intro @ld5 (And.intro @ld60 (And.intro @ld33 (And.intro @ld121 (And.intro @ld63 (And.intro (fun a h => conv_int (a := a) (h := h) u3 u60) (And.intro (fun a h => conv_int (a := a) (h := h) u2 u60) (And.intro (fun a h => conv_int (a := a) (h := h) u60 u5) (And.intro (fun a h => conv_int (a := a) (h := h) u60 u2) (And.intro (fun a h => conv_int (a := a) (h := h) u3 u5) (And.intro @ex2_0 (@ex2_1))))))))))))))
def i6v (z : Int) : Value := .int .i64 z
def Ints (h : AH) (v : Value) (l : List Int) : Prop := Sl1 Tryz.prog h v i6v l
def i6rows (l : List Int) : List (List Value) := l.map fun z => [i6v z]
/-- A number with a sign as one without. -/
def toU (z : Int) : Nat := (z % 18446744073709551616).toNat
theorem toU_lt (z : Int) : toU z < 18446744073709551616 := by unfold toU; omega
theorem wrapU (z : Int) : IntKind.u64.wrap z = (toU z : Int) := by rw [wrap_u64]; unfold toU; omega
theorem dropc {α : Type} {l : List α} {i : Nat} {x : α} (h : l[i]? = some x) : l.drop i = x :: l.drop (i + 1) := by
  have hlt : i < l.length := (List.getElem?_eq_some_iff.1 h).1
  rw [List.drop_eq_getElem_cons hlt]
  rw [List.getElem?_eq_getElem hlt] at h
  cases h; rfl
/-! ### Eight bytes, put -/
theorem shrK (x i : Nat) (hi : i < 8) : ∀ t a b, pBin Tryz.prog Go.BinOp.shr t a b (.int .u64 (x : Int)) (.int .i64 (8 * (i : Int))) = some (.int .u64 ((x / 2 ^ (8 * i) : Nat) : Int)) := fun t a b => by
  rw [shr_nn (by omega)]
  have e1 : min ((8 * (i : Int))).toNat IntKind.u64.bits = 8 * i := by
    have : IntKind.u64.bits = 64 := rfl
    rw [this]; omega
  rw [e1, Int.fdiv_eq_ediv_of_nonneg _ (by exact_mod_cast Nat.zero_le _)]
  simp
theorem f75_loop {β : Type} {k : Nat} {Q : β → Prop} {n0 : Nat} {h0 : AH} {L : List (Nat × AO)} {O : List OS} {x : Nat} {ke0 : Value → Value → Value → Value → Value → AH → Option β} (r : Nat) :
    ∀ {i j : Nat} {h : AH} {v : Value} {l : List Nat}, i + r = 8 → r < j → l.length + r ≤ 2 ^ 30 → Stt Tryz.prog n0 h0 h L ((v, 1, u8rows l) :: O) →
      (∀ h' v' y16 y, Stt Tryz.prog n0 h0 h' L ((v', 1, u8rows (l ++ le x i r)) :: O) → Tl (ke0 v' (.int .u64 x) (.int .i64 8) y16 y h') Q) →
      Tl (F75_lrlrr (eInv env k) k j v (.int .u64 (x : Int)) (.int .i64 8) (.int .i64 (i : Int)) h ke0) Q := by
  induction r with
  | zero =>
    intro i j h v l hi hj hl S hk
    obtain ⟨j, rfl⟩ : ∃ q, j = q + 1 := ⟨j - 1, by omega⟩
    simp only [F75_lrlrr]
    repeat (first | (with_reducible apply qzV; simp (disch := omega) only [coreA, Int.reduceBEq, bzIa] <;> with_reducible rfl) | (with_reducible first | apply qzT | apply qzF | apply qzG | apply qzH) | ((with_reducible first | apply qzB | apply qzC | apply qzD); simp (disch := omega) only [coreA, Int.reduceBEq, bzIa] <;> with_reducible rfl))
    exact hk _ _ _ _ (by simpa [le] using S)
  | succ r ih =>
    intro i j h v l hi hj hl S hk
    obtain ⟨j, rfl⟩ : ∃ q, j = q + 1 := ⟨j - 1, by omega⟩
    have wb : IntKind.u8.wrap ((x / 2 ^ (8 * i) : Nat) : Int) = ((x / 2 ^ (8 * i) % 256 : Nat) : Int) := by rw [wrap_u8]; omega
    have e : (i : Int) + 1 = ((i + 1 : Nat) : Int) := by omega
    simp only [F75_lrlrr]
    repeat (first | (with_reducible apply qzV; simp (disch := omega) only [coreA, Int.reduceBEq, bzIa, shrK x i (by omega), wb] <;> with_reducible rfl) | (with_reducible first | apply qzT | apply qzF | apply qzG | apply qzH) | ((with_reducible first | apply qzB | apply qzC | apply qzD); simp (disch := omega) only [coreA, Int.reduceBEq, bzIa, shrK x i (by omega), wb] <;> with_reducible rfl))
    refine Tl.push S 0 rfl app33 (bs33 _ _) rfl rfl (by rw [u8rows_len]; omega) fun v' h' S' => ?_
    repeat (first | (with_reducible apply qzV; simp (disch := omega) only [coreA, Int.reduceBEq, bzIa] <;> with_reducible rfl) | (with_reducible first | apply qzT | apply qzF | apply qzG | apply qzH) | ((with_reducible first | apply qzB | apply qzC | apply qzD); simp (disch := omega) only [coreA, Int.reduceBEq, bzIa] <;> with_reducible rfl))
    rw [e]
    refine ih (l := l ++ [x / 2 ^ (8 * i) % 256]) (by omega) (by omega) (by simp; omega) (by simpa [u8rows, u8v] using S') fun h2 v2 y16 y S2 => hk h2 v2 y16 y ?_
    rw [le]
    simpa using S2
theorem f75c {k : Nat} {n0 : Nat} {h0 h : AH} {L : List (Nat × AO)} {O : List OS} {v : Value} {l : List Nat} (x : Nat) (hl : l.length ≤ 2 ^ 29) (S : Stt Tryz.prog n0 h0 h L ((v, 1, u8rows l) :: O)) :
    Tl (eInv env (k + 20) (.func 75) #[] #[v, .int .u64 (x : Int), .int .i64 8] h) fun r => Stt Tryz.prog n0 h0 r.2 L ((r.1, 1, u8rows (l ++ le x 0 8)) :: O) := by
  rw [F75_call]
  unfold F75
  repeat (first | (with_reducible apply qzV; simp (disch := omega) only [coreA, Int.reduceBEq, bzIa] <;> with_reducible rfl) | (with_reducible first | apply qzT | apply qzF | apply qzG | apply qzH) | ((with_reducible first | apply qzB | apply qzC | apply qzD); simp (disch := omega) only [coreA, Int.reduceBEq, bzIa] <;> with_reducible rfl))
  refine f75_loop (k := k + 19) 8 (i := 0) (by omega) (by omega) (by omega) S fun h' v' y16 y S' => ?_
  exact ⟨_, rfl, S'⟩
/-! ### A form's head -/
def headB (f n : Nat) : List Nat := f :: pvarN n
theorem f164c {k : Nat} {n0 : Nat} {h0 h : AH} {L : List (Nat × AO)} {O : List OS} {f n : Nat} (hn : n ≤ 100000) (S : Stt Tryz.prog n0 h0 h L O) :
    Tl (eInv env (k + 21) (.func 164) #[] #[.int .u8 (f : Int), .int .i64 (n : Int)] h) fun r => Stt Tryz.prog n0 h0 r.2 L ((r.1, 1, u8rows (headB f n)) :: O) := by
  rw [F164_call]
  unfold F164
  repeat (first | (with_reducible apply qzV; simp (disch := omega) only [coreA, Int.reduceBEq, bzIa, bs33] <;> with_reducible rfl) | (with_reducible first | apply qzT | apply qzF | apply qzG | apply qzH) | ((with_reducible first | apply qzB | apply qzC | apply qzD); simp (disch := omega) only [coreA, Int.reduceBEq, bzIa, bs33] <;> with_reducible rfl))
  have S1 : Stt Tryz.prog n0 h0 (h.alloc (.cells (u8rows [f]).flatten 5 true)) ((h.n, .cells (u8rows [f]).flatten 5 true) :: L) O := S.alloc _
  have S2 := S1.absorb (n := 1) (u8v_wide [f]) sz5
  have T := f47c (k := k) (l := [f]) n (by omega) (by simp) S2
  exact Tl.bind T fun r hr => ⟨_, rfl, hr⟩
/-! ### 'Plain' -/
def plainB (l : List Int) : List Nat := headB 1 l.length ++ l.flatMap fun z => le (toU z) 0 8
theorem flat8_len (l : List Int) : (l.flatMap fun z => le (toU z) 0 8).length = 8 * l.length := by
  induction l with
  | nil => rfl
  | cons z l ih => simp [ih, le_len]; omega
theorem f144_loop {β : Type} {k : Nat} {Q : β → Prop} {h0 : AH} {v : Value} {l : List Int} (A : Ints h0 v l) (hl : l.length ≤ 5000) {ke0 : Value → Value → Value → Value → Value → AH → Option β} (n : Nat) :
    ∀ {i j : Nat} {h : AH} {ov : Value} {done : List Nat}, i + n = l.length → n < j → done.length ≤ 20 + 8 * i → Stt Tryz.prog h0.n h0 h [] [(ov, 1, u8rows done)] →
      (∀ h' ov' y y', Stt Tryz.prog h0.n h0 h' [] [(ov', 1, u8rows (done ++ (l.drop i).flatMap fun z => le (toU z) 0 8))] → Tl (ke0 ov' v (.int .i64 l.length) y y' h') Q) →
      Tl (F144_lrlrrr (eInv env (k + 20)) (k + 20) j ov v (.int .i64 l.length) (.int .i64 i) h ke0) Q := by
  induction n with
  | zero =>
    intro i j h ov done hi hj hd S hk
    obtain ⟨j, rfl⟩ : ∃ q, j = q + 1 := ⟨j - 1, by omega⟩
    simp only [F144_lrlrrr]
    repeat (first | (with_reducible apply qzV; simp (disch := omega) only [coreA, Int.reduceBEq, bzIa] <;> with_reducible rfl) | (with_reducible first | apply qzT | apply qzF | apply qzG | apply qzH) | ((with_reducible first | apply qzB | apply qzC | apply qzD); simp (disch := omega) only [coreA, Int.reduceBEq, bzIa] <;> with_reducible rfl))
    refine hk _ _ _ _ ?_
    rw [List.drop_eq_nil_of_le (by omega)]
    simpa using S
  | succ n ih =>
    intro i j h ov done hi hj hd S hk
    obtain ⟨j, rfl⟩ : ∃ q, j = q + 1 := ⟨j - 1, by omega⟩
    obtain ⟨x, hx⟩ : ∃ x, l[i]? = some x := ⟨_, List.getElem?_eq_getElem (by omega)⟩
    obtain ⟨b, o, hp, hc1⟩ := Sl1.at_ A (t := 121) (k := .i64) hx u121 sz2
    have hc1 := hc1 h S.grow
    have e : (i : Int) + 1 = ((i + 1 : Nat) : Int) := by omega
    simp only [F144_lrlrrr]
    repeat (first | (with_reducible apply qzV; simp (disch := omega) only [coreA, Int.reduceBEq, bzIa, hp, hc1, i6v, wrapU] <;> with_reducible rfl) | (with_reducible first | apply qzT | apply qzF | apply qzG | apply qzH) | ((with_reducible first | apply qzB | apply qzC | apply qzD); simp (disch := omega) only [coreA, Int.reduceBEq, bzIa, hp, hc1, i6v, wrapU] <;> with_reducible rfl))
    refine Tl.bind (f75c (k := k) (toU x) (by omega) S) ?_
    rintro ⟨ov2, h2⟩ S2
    simp only at S2
    repeat (first | (with_reducible apply qzV; simp (disch := omega) only [coreA, Int.reduceBEq, bzIa] <;> with_reducible rfl) | (with_reducible first | apply qzT | apply qzF | apply qzG | apply qzH) | ((with_reducible first | apply qzB | apply qzC | apply qzD); simp (disch := omega) only [coreA, Int.reduceBEq, bzIa] <;> with_reducible rfl))
    rw [e]
    refine ih (by omega) (by omega) (by simp [le_len]; omega) S2 fun h3 ov3 y y' S3 => hk h3 ov3 y y' ?_
    rw [dropc hx]
    simpa using S3
theorem f144c {k : Nat} {h : AH} {v : Value} {l : List Int} (A : Ints h v l) (hl : l.length ≤ 4096) (hk : l.length < k) :
    Tl (eInv env (k + 30) (.func 144) #[] #[v] h) fun r => ∃ o, r.1 = .tuple #[o, .int .i64 0] ∧ Grow h r.2 ∧ OwnB Tryz.prog h.n r.2 o 1 (u8rows (plainB l)) := by
  rw [F144_call]
  unfold F144
  have hv : ∀ h', pLen Tryz.prog #[121] v h' = some (.int .i64 l.length) := fun h' => Sl1.len A u121
  have h10 := pvarN_le10 (n := l.length) (by omega)
  repeat (first | (with_reducible apply qzV; simp (disch := omega) only [coreA, Int.reduceBEq, bzIa, hv] <;> with_reducible rfl) | (with_reducible first | apply qzT | apply qzF | apply qzG | apply qzH) | ((with_reducible first | apply qzB | apply qzC | apply qzD); simp (disch := omega) only [coreA, Int.reduceBEq, bzIa, hv] <;> with_reducible rfl))
  refine Tl.bind (f164c (k := k + 8) (f := 1) (n := l.length) (by omega) (Stt.init h)) ?_
  rintro ⟨ov, h1⟩ S1
  simp only at S1
  repeat (first | (with_reducible apply qzV; simp (disch := omega) only [coreA, Int.reduceBEq, bzIa, hv] <;> with_reducible rfl) | (with_reducible first | apply qzT | apply qzF | apply qzG | apply qzH) | ((with_reducible first | apply qzB | apply qzC | apply qzD); simp (disch := omega) only [coreA, Int.reduceBEq, bzIa, hv] <;> with_reducible rfl))
  refine f144_loop (k := k + 9) A (by omega) l.length (i := 0) (by omega) (by omega) (by unfold headB; simp; omega) S1 fun h' ov' y y' S' => ?_
  exact ⟨_, rfl, _, rfl, S'.grow, S'.ret 0 rfl⟩
/-! ### 'Runs' -/
def rli (b : Int) (n : Nat) : List Int → List (Nat × Int)
  | [] => [(n, b)]
  | c :: l => if c = b then rli b (n + 1) l else (n, b) :: rli c 1 l
def runsI : List Int → List (Nat × Int)
  | [] => []
  | b :: l => rli b 1 l
def runB (r : Nat × Int) : List Nat := pvarN r.1 ++ le (toU r.2) 0 8
def runsB (l : List Int) : List Nat := headB 2 l.length ++ (runsI l).flatMap runB
theorem f146_loop {β : Type} {k : Nat} {Q : β → Prop} {h0 : AH} {v : Value} {l : List Int} (A : Ints h0 v l) (hl : l.length ≤ 5000) {ke0 : Value → Value → Value → Value → Value → Value → AH → Option β} (n : Nat) :
    ∀ {i j frm : Nat} {h : AH} {ov : Value} {rs : List (Nat × Int)} {hd : List Nat}, i + n = l.length → n < j → frm ≤ i → hd.length ≤ 20 → ((rs.flatMap runB).length ≤ 18 * i) → (n = 0 → rs = runsI l) →
      (∀ x, l[i]? = some x → l[frm]? = some x ∧ rs ++ rli x (i + 1 - frm) (l.drop (i + 1)) = runsI l) →
      Stt Tryz.prog h0.n h0 h [] [(ov, 1, u8rows (hd ++ rs.flatMap runB))] →
      (∀ h' ov' y y' y'', Stt Tryz.prog h0.n h0 h' [] [(ov', 1, u8rows (hd ++ (runsI l).flatMap runB))] → Tl (ke0 v ov' y (.int .i64 l.length) y' y'' h') Q) →
      Tl (F146_lrlrrrrlr (eInv env (k + 20)) (k + 20) j v ov (.int .i64 frm) (.int .i64 l.length) (.int .i64 i) h ke0) Q := by
  induction n with
  | zero =>
    intro i j frm h ov rs hd hi hj hf hhd hrs h0' hx S hk
    obtain ⟨j, rfl⟩ : ∃ q, j = q + 1 := ⟨j - 1, by omega⟩
    simp only [F146_lrlrrrrlr]
    repeat (first | (with_reducible apply qzV; simp (disch := omega) only [coreA, Int.reduceBEq, bzIa] <;> with_reducible rfl) | (with_reducible first | apply qzT | apply qzF | apply qzG | apply qzH) | ((with_reducible first | apply qzB | apply qzC | apply qzD); simp (disch := omega) only [coreA, Int.reduceBEq, bzIa] <;> with_reducible rfl))
    rw [h0' rfl] at S
    exact hk _ _ _ _ _ S
  | succ n ih =>
    intro i j frm h ov rs hd hi hj hf hhd hrs h0' hx S hk
    obtain ⟨j, rfl⟩ : ∃ q, j = q + 1 := ⟨j - 1, by omega⟩
    obtain ⟨x, ex⟩ : ∃ x, l[i]? = some x := ⟨_, List.getElem?_eq_getElem (by omega)⟩
    obtain ⟨efx, hx1⟩ := hx x ex
    obtain ⟨b, o, hp, hc⟩ := Sl1.at_ A (t := 121) (k := .i64) ex u121 sz2
    obtain ⟨bf, of, hpf, hcf⟩ := Sl1.at_ A (t := 121) (k := .i64) efx u121 sz2
    have hlen : ∀ h', pLen Tryz.prog #[121] v h' = some (.int .i64 l.length) := fun h' => Sl1.len A u121
    have e : (i : Int) + 1 = ((i + 1 : Nat) : Int) := by omega
    have em : ((i + 1 : Nat) : Int) - (frm : Int) = ((i + 1 - frm : Nat) : Int) := by omega
    have h10 := pvarN_le10 (n := i + 1 - frm) (by omega)
    -- what is put
    have step : ∀ (hnext : n = 0 → rs ++ [(i + 1 - frm, x)] = runsI l) (hx' : ∀ y, l[i + 1]? = some y → (rs ++ [(i + 1 - frm, x)]) ++ rli y 1 (l.drop (i + 2)) = runsI l) (Kt : Value → AH → Option β)
        (hKt : ∀ ov' h', Kt ov' h' = F146_lrlrrrrlr (eInv env (k + 20)) (k + 20) j v ov' (.int .i64 ((i + 1 : Nat) : Int)) (.int .i64 l.length) (.int .i64 ((i + 1 : Nat) : Int)) h' ke0),
        Tl (Ev.bnd (eInv env (k + 20) (.func 47) #[] #[ov, .int .u64 ((i + 1 - frm : Nat) : Int)] h) fun x41 =>
          Ev.bnd (pIndexAddr Tryz.prog 121 v (.int .i64 (i : Int))) fun x44 =>
          Ev.bnd (pLoad Tryz.prog 2 x44 x41.2) fun x45 =>
          Ev.bnd (pConv Tryz.prog 2 60 x45 x41.2) fun x46 =>
          Ev.bnd (eInv env (k + 20) (.func 75) #[] #[x41.1, x46, .int .i64 8] x41.2) fun x47 =>
          chkK ((!true || !true || (sameO (pLoad Tryz.prog 2 x44 h) x45 && sameO (pLoad Tryz.prog 2 x44 x41.2) x45)) && ((!true || !true || (sameO (pConv Tryz.prog 2 60 x45 h) x46 && sameO (pConv Tryz.prog 2 60 x45 x41.2) x46)) && true)) <|
          Kt x47.1 x47.2) Q := by
      intro hnext hx' Kt hKt
      refine Tl.bind (f47c (k := k) (i + 1 - frm) (by omega) (by simp only [List.length_append]; omega) S) ?_
      rintro ⟨ov2, h2⟩ S2
      simp only at S2
      have hc2 := hc h2 S2.grow
      have hc0 := hc h S.grow
      repeat (first | (with_reducible apply qzV; simp (disch := omega) only [coreA, Int.reduceBEq, bzIa, hp, hc2, i6v, wrapU] <;> with_reducible rfl) | (with_reducible first | apply qzT | apply qzF | apply qzG | apply qzH) | ((with_reducible first | apply qzB | apply qzC | apply qzD); simp (disch := omega) only [coreA, Int.reduceBEq, bzIa, hp, hc2, i6v, wrapU] <;> with_reducible rfl))
      refine Tl.bind (f75c (k := k) (toU x) (by simp only [List.length_append]; omega) S2) ?_
      rintro ⟨ov3, h3⟩ S3
      simp only at S3
      with_reducible refine Tl.chk ?_ ?_
      · simp only [ld2, hc0, hc2, i6v, wrapU, conv_int u2 u60, sameO_some, sameV_int, Bool.and_self, Bool.not_true, Bool.or_true, Bool.true_and, Bool.false_or]
      rw [hKt]
      have e2 : hd ++ rs.flatMap runB ++ pvarN (i + 1 - frm) ++ le (toU x) 0 8 = hd ++ (rs ++ [(i + 1 - frm, x)]).flatMap runB := by simp [runB]
      rw [e2] at S3
      refine ih (rs := rs ++ [(i + 1 - frm, x)]) (by omega) (by omega) (by omega) hhd ?_ hnext (fun y hy => ⟨hy, ?_⟩) S3 hk
      · simp only [List.flatMap_append, List.flatMap_cons, List.flatMap_nil, List.append_nil, List.length_append, runB, le_len]; omega
      · rw [show i + 1 + 1 - (i + 1) = 1 by omega]; exact hx' y hy
    simp only [F146_lrlrrrrlr]
    unfold F146_lrrllrlrrrrlr
    have hc0 := hc h S.grow
    have hcf := hcf h S.grow
    by_cases q : i + 1 < l.length
    · obtain ⟨y, ey⟩ : ∃ x, l[i + 1]? = some x := ⟨_, List.getElem?_eq_getElem q⟩
      obtain ⟨b2, o2, hp2, hc2⟩ := Sl1.at_ A (t := 121) (k := .i64) ey u121 sz2
      have hc2 := hc2 h S.grow
      rw [← e] at hp2
      rw [dropc ey] at hx1
      by_cases exy : y = x
      · subst exy
        repeat (first | (with_reducible apply qzV; simp (disch := omega) only [coreA, Int.reduceBEq, bzIa, hlen, hp2, hc2, i6v, hpf, hcf] <;> with_reducible rfl) | (with_reducible first | apply qzT | apply qzF | apply qzG | apply qzH) | ((with_reducible first | apply qzB | apply qzC | apply qzD); simp (disch := omega) only [coreA, Int.reduceBEq, bzIa, hlen, hp2, hc2, i6v, hpf, hcf] <;> with_reducible rfl))
        rw [e]
        refine ih (rs := rs) (by omega) (by omega) (by omega) hhd (by omega) (fun q => by omega) (fun x' hx' => ?_) S hk
        rw [ey] at hx'
        cases hx'
        refine ⟨efx, ?_⟩
        rw [← hx1, rli, if_pos rfl, show i + 1 + 1 - frm = i + 1 - frm + 1 by omega]
      · repeat (first | (with_reducible apply qzV; simp (disch := omega) only [coreA, Int.reduceBEq, bzIa, hlen, hp2, hc2, i6v, hpf, hcf, wrapU] <;> with_reducible rfl) | (with_reducible first | apply qzT | apply qzF | apply qzG | apply qzH) | ((with_reducible first | apply qzB | apply qzC | apply qzD); simp (disch := omega) only [coreA, Int.reduceBEq, bzIa, hlen, hp2, hc2, i6v, hpf, hcf, wrapU] <;> with_reducible rfl))
        rw [rli, if_neg exy] at hx1
        have eu : (i : Int) + 1 - (frm : Int) = ((i + 1 - frm : Nat) : Int) := by omega
        rw [eu]
        refine step (fun q => by omega) (fun y' hy' => ?_) (fun ov' h' => Ev.bnd (pBin Tryz.prog .add 3 (.tmp 48) (.const (.int .i64 1)) (.int .i64 (i : Int)) (.int .i64 1)) fun x49 => Ev.bnd (pBin Tryz.prog .add 3 (.tmp 15) (.const (.int .i64 1)) (.int .i64 (i : Int)) (.int .i64 1)) fun x50 => F146_lrlrrrrlr (eInv env (k + 20)) (k + 20) j v ov' x49 (.int .i64 l.length) x50 h' ke0) (fun ov' h' => ?_)
        · rw [ey] at hy'
          cases hy'
          simpa using hx1
        · simp only [bin_add, bnd_some, e, wr_i64 (show -9223372036854775808 ≤ ((i + 1 : Nat) : Int) ∧ ((i + 1 : Nat) : Int) ≤ 9223372036854775807 by omega)]
    · repeat (first | (with_reducible apply qzV; simp (disch := omega) only [coreA, Int.reduceBEq, bzIa, hlen, hp, hc0, i6v, hpf, hcf, wrapU] <;> with_reducible rfl) | (with_reducible first | apply qzT | apply qzF | apply qzG | apply qzH) | ((with_reducible first | apply qzB | apply qzC | apply qzD); simp (disch := omega) only [coreA, Int.reduceBEq, bzIa, hlen, hp, hc0, i6v, hpf, hcf, wrapU] <;> with_reducible rfl))
      have eu : (i : Int) + 1 - (frm : Int) = ((i + 1 - frm : Nat) : Int) := by omega
      rw [eu]
      rw [List.drop_eq_nil_of_le (by omega), rli] at hx1
      refine step (fun q => hx1) (fun y' hy' => ?_) (fun ov' h' => Ev.bnd (pBin Tryz.prog .add 3 (.tmp 48) (.const (.int .i64 1)) (.int .i64 (i : Int)) (.int .i64 1)) fun x49 => Ev.bnd (pBin Tryz.prog .add 3 (.tmp 15) (.const (.int .i64 1)) (.int .i64 (i : Int)) (.int .i64 1)) fun x50 => F146_lrlrrrrlr (eInv env (k + 20)) (k + 20) j v ov' x49 (.int .i64 l.length) x50 h' ke0) (fun ov' h' => ?_)
      · rw [List.getElem?_eq_none (by omega)] at hy'
        cases hy'
      · simp only [bin_add, bnd_some, e, wr_i64 (show -9223372036854775808 ≤ ((i + 1 : Nat) : Int) ∧ ((i + 1 : Nat) : Int) ≤ 9223372036854775807 by omega)]
theorem f146c {k : Nat} {h : AH} {v : Value} {l : List Int} (A : Ints h v l) (hl : l.length ≤ 4096) (hk : l.length < k) :
    Tl (eInv env (k + 30) (.func 146) #[] #[v] h) fun r => ∃ o, r.1 = .tuple #[o, .int .i64 0] ∧ Grow h r.2 ∧ OwnB Tryz.prog h.n r.2 o 1 (u8rows (runsB l)) := by
  rw [F146_call]
  unfold F146
  have hv : ∀ h', pLen Tryz.prog #[121] v h' = some (.int .i64 l.length) := fun h' => Sl1.len A u121
  have h10 := pvarN_le10 (n := l.length) (by omega)
  repeat (first | (with_reducible apply qzV; simp (disch := omega) only [coreA, Int.reduceBEq, bzIa, hv] <;> with_reducible rfl) | (with_reducible first | apply qzT | apply qzF | apply qzG | apply qzH) | ((with_reducible first | apply qzB | apply qzC | apply qzD); simp (disch := omega) only [coreA, Int.reduceBEq, bzIa, hv] <;> with_reducible rfl))
  refine Tl.bind (f164c (k := k + 8) (f := 2) (n := l.length) (by omega) (Stt.init h)) ?_
  rintro ⟨ov, h1⟩ S1
  simp only at S1
  repeat (first | (with_reducible apply qzV; simp (disch := omega) only [coreA, Int.reduceBEq, bzIa, hv] <;> with_reducible rfl) | (with_reducible first | apply qzT | apply qzF | apply qzG | apply qzH) | ((with_reducible first | apply qzB | apply qzC | apply qzD); simp (disch := omega) only [coreA, Int.reduceBEq, bzIa, hv] <;> with_reducible rfl))
  refine f146_loop (k := k + 9) A (by omega) l.length (i := 0) (frm := 0) (rs := []) (hd := headB 2 l.length) (by omega) (by omega) (by omega) (by unfold headB; simp; omega) (by simp) (fun q => ?_) (fun x hx => ⟨hx, ?_⟩) (by simpa using S1) fun h' ov' y y' y'' S' => ?_
  · have : l = [] := List.length_eq_zero_iff.1 q
    subst this
    rfl
  · cases l with
    | nil => simp at hx
    | cons a l => simp at hx; subst hx; simp [runsI]
  · exact ⟨_, rfl, _, rfl, S'.grow, S'.ret 0 rfl⟩
/-! ### 'Packed' -/
def minI : List Int → Int
  | [] => 0
  | a :: l => l.foldl (fun m x => if x < m then x else m) a
theorem f166_loop {β : Type} {k : Nat} {Q : β → Prop} {h : AH} {v : Value} {l : List Int} (A : Ints h v l) (hl : l.length ≤ 5000) {ke0 : Value → Value → Value → Value → AH → Option β} (n : Nat) :
    ∀ {i j : Nat} {m : Int}, i + n = l.length → n < j → (∀ y y', Tl (ke0 v (.int .i64 ((l.drop i).foldl (fun m x => if x < m then x else m) m)) y y' h) Q) →
      Tl (F166_lrlrrr (eInv env k) k j v (.int .i64 m) (.int .i64 i) h ke0) Q := by
  have hv : ∀ h', pLen Tryz.prog #[121] v h' = some (.int .i64 l.length) := fun h' => Sl1.len A u121
  induction n with
  | zero =>
    intro i j m hi hj hk
    obtain ⟨j, rfl⟩ : ∃ q, j = q + 1 := ⟨j - 1, by omega⟩
    simp only [F166_lrlrrr]
    repeat (first | (with_reducible apply qzV; simp (disch := omega) only [coreA, Int.reduceBEq, bzIa, hv] <;> with_reducible rfl) | (with_reducible first | apply qzT | apply qzF | apply qzG | apply qzH) | ((with_reducible first | apply qzB | apply qzC | apply qzD); simp (disch := omega) only [coreA, Int.reduceBEq, bzIa, hv] <;> with_reducible rfl))
    rw [List.drop_eq_nil_of_le (by omega)] at hk
    exact hk _ _
  | succ n ih =>
    intro i j m hi hj hk
    obtain ⟨j, rfl⟩ : ∃ q, j = q + 1 := ⟨j - 1, by omega⟩
    obtain ⟨x, hx⟩ : ∃ x, l[i]? = some x := ⟨_, List.getElem?_eq_getElem (by omega)⟩
    obtain ⟨b, o, hp, hc1⟩ := Sl1.at_ A (t := 121) (k := .i64) hx u121 sz2
    have hc1 := hc1 h (Grow.refl _)
    have e : (i : Int) + 1 = ((i + 1 : Nat) : Int) := by omega
    have mm : pMinMax Tryz.prog false #[.int .i64 m, .int .i64 x] = some (.int .i64 (if x < m then x else m)) := by
      by_cases h : x < m
      · have h2 : ¬ m ≤ x := by omega
        simp [pMinMax, Builtin.min_, Builtin.min2, h, chk, plain, plain0] <;> rfl
      · simp [pMinMax, Builtin.min_, Builtin.min2, h, chk, plain, plain0] <;> rfl
    rw [dropc hx] at hk
    simp only [F166_lrlrrr]
    repeat (first | (with_reducible apply qzV; simp (disch := omega) only [coreA, Int.reduceBEq, bzIa, hv, hp, hc1, i6v, mm] <;> with_reducible rfl) | (with_reducible first | apply qzT | apply qzF | apply qzG | apply qzH) | ((with_reducible first | apply qzB | apply qzC | apply qzD); simp (disch := omega) only [coreA, Int.reduceBEq, bzIa, hv, hp, hc1, i6v, mm] <;> with_reducible rfl))
    rw [e]
    exact ih (by omega) (by omega) hk
theorem f166c {k : Nat} {h : AH} {v : Value} {l : List Int} (A : Ints h v l) (hne : l ≠ []) (hl : l.length ≤ 5000) (hk : l.length < k) : eInv env (k + 1) (.func 166) #[] #[v] h = some (.int .i64 (minI l), h) := by
  have hpos := List.length_pos_iff.2 hne
  have T : Tl (F166 (eInv env k) k v h) fun r => r = (.int .i64 (minI l), h) := by
    unfold F166
    have hv : ∀ h', pLen Tryz.prog #[121] v h' = some (.int .i64 l.length) := fun h' => Sl1.len A u121
    obtain ⟨x, hx⟩ : ∃ x, l[0]? = some x := ⟨_, List.getElem?_eq_getElem hpos⟩
    obtain ⟨b, o, hp, hc1⟩ := Sl1.at_ A (t := 121) (k := .i64) hx u121 sz2
    have hc1 := hc1 h (Grow.refl _)
    have hp : pIndexAddr Tryz.prog 121 v (.int .i64 0) = _ := hp
    unfold F166_rlr
    repeat (first | (with_reducible apply qzV; simp (disch := omega) only [coreA, Int.reduceBEq, bzIa, hv, hp, hc1, i6v] <;> with_reducible rfl) | (with_reducible first | apply qzT | apply qzF | apply qzG | apply qzH) | ((with_reducible first | apply qzB | apply qzC | apply qzD); simp (disch := omega) only [coreA, Int.reduceBEq, bzIa, hv, hp, hc1, i6v] <;> with_reducible rfl))
    refine f166_loop A hl (l.length - 1) (i := 1) (by omega) (by omega) fun y y' => ⟨_, rfl, ?_⟩
    cases l with
    | nil => simp at hpos
    | cons a l => simp at hx; subst hx; rfl
  obtain ⟨r, h1, h2⟩ := T
  rw [F166_call, h1, h2]
/-- What numbers have more than the least one. -/
def moreI (l : List Int) : List Nat := l.map fun z => toU (z - minI l)
def widI (l : List Int) : Nat := Pk.widthN (moreI l)
def packB (l : List Int) : List Nat := headB 3 l.length ++ le (toU (minI l)) 0 8 ++ (widI l :: putN (widI l) (moreI l))
theorem moreI_lt (l : List Int) : ∀ x ∈ moreI l, x < 18446744073709551616 := fun x hx => by
  obtain ⟨z, _, rfl⟩ := List.mem_map.1 hx
  exact toU_lt _
theorem toU_sub (a b : Int) : IntKind.u64.wrap ((toU a : Int) - (toU b : Int)) = (toU (a - b) : Int) := by
  rw [wrap_u64]; unfold toU; omega
theorem f148_loop {β : Type} {k : Nat} {Q : β → Prop} {h0 : AH} {v : Value} {l : List Int} {m : Int} (A : Ints h0 v l) (hl : l.length ≤ 5000) {ke0 : Value → Value → Value → Value → Value → Value → Value → AH → Option β} (n : Nat) :
    ∀ {i j : Nat} {h : AH} {ov : Value} {done : List Nat}, i + n = l.length → n < j → done.length = i → Stt Tryz.prog h0.n h0 h [] [(ov, 1, u64rows done)] →
      (∀ h' ov' y y', Stt Tryz.prog h0.n h0 h' [] [(ov', 1, u64rows (done ++ (l.drop i).map fun z => toU (z - m)))] → Tl (ke0 v (.int .i64 m) ov' v (.int .i64 l.length) y y' h') Q) →
      Tl (F148_lrlrrrrr (eInv env k) k j v (.int .i64 m) ov v (.int .i64 l.length) (.int .i64 i) h ke0) Q := by
  induction n with
  | zero =>
    intro i j h ov done hi hj hd S hk
    obtain ⟨j, rfl⟩ : ∃ q, j = q + 1 := ⟨j - 1, by omega⟩
    simp only [F148_lrlrrrrr]
    repeat (first | (with_reducible apply qzV; simp (disch := omega) only [coreA, Int.reduceBEq, bzIa] <;> with_reducible rfl) | (with_reducible first | apply qzT | apply qzF | apply qzG | apply qzH) | ((with_reducible first | apply qzB | apply qzC | apply qzD); simp (disch := omega) only [coreA, Int.reduceBEq, bzIa] <;> with_reducible rfl))
    refine hk _ _ _ _ ?_
    rw [List.drop_eq_nil_of_le (by omega)]
    simpa using S
  | succ n ih =>
    intro i j h ov done hi hj hd S hk
    obtain ⟨j, rfl⟩ : ∃ q, j = q + 1 := ⟨j - 1, by omega⟩
    obtain ⟨x, hx⟩ : ∃ x, l[i]? = some x := ⟨_, List.getElem?_eq_getElem (by omega)⟩
    obtain ⟨b, o, hp, hc1⟩ := Sl1.at_ A (t := 121) (k := .i64) hx u121 sz2
    have hc1 := hc1 h S.grow
    have e : (i : Int) + 1 = ((i + 1 : Nat) : Int) := by omega
    have cx : pConv Tryz.prog 2 60 (.int .i64 x) h = some (.int .u64 (toU x : Int)) := by rw [conv_int u2 u60, wrapU]
    have cm : pConv Tryz.prog 2 60 (.int .i64 m) h = some (.int .u64 (toU m : Int)) := by rw [conv_int u2 u60, wrapU]
    have sb : ∀ t a b, pBin Tryz.prog Go.BinOp.sub t a b (.int .u64 (toU x : Int)) (.int .u64 (toU m : Int)) = some (.int .u64 (toU (x - m) : Int)) := fun t a b => by rw [bin_sub, toU_sub]
    simp only [F148_lrlrrrrr]
    with_reducible apply Tl.val
    · focus (simp (disch := omega) only [coreA, bzIa] <;> with_reducible rfl)
    with_reducible refine Tl.brT ?_
    with_reducible apply Tl.val
    · exact hp
    with_reducible apply Tl.val
    · rw [ld2]; exact hc1
    refine Tl.val cx ?_
    refine Tl.val cm ?_
    refine Tl.val (sb _ _ _) ?_
    refine Tl.push S 0 rfl app63 (bs63 _ _) rfl rfl (by rw [u64rows_len]; omega) fun ov2 h2 S2 => ?_
    repeat (first | (with_reducible apply qzV; simp (disch := omega) only [coreA, Int.reduceBEq, bzIa] <;> with_reducible rfl) | (with_reducible first | apply qzT | apply qzF | apply qzG | apply qzH) | ((with_reducible first | apply qzB | apply qzC | apply qzD); simp (disch := omega) only [coreA, Int.reduceBEq, bzIa] <;> with_reducible rfl))
    rw [e]
    refine ih (done := done ++ [toU (x - m)]) (by omega) (by omega) (by simp [hd]) (by simpa [u64rows, u64v] using S2) fun h3 ov3 y y' S3 => hk h3 ov3 y y' ?_
    rw [dropc hx]
    simpa using S3
theorem widI_le (l : List Int) : widI l ≤ 64 := Pk.width64 (moreI_lt l)
theorem putN_len {w n : Nat} {l : List Nat} (hl : l.length = n) (hw : w ≤ 64) (hn : n ≤ 5000) : (putN w l).length ≤ 40100 := by
  have := (putN_spec w l).2.1
  have h2 : l.length * w ≤ 5000 * 64 := Nat.mul_le_mul (by omega) hw
  omega
end Go.Proofs.YtghelamfaaakcaaGreat.Sh
