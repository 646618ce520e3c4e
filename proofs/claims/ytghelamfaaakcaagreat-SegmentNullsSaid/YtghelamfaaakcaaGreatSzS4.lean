/- Which cells of a kind may be: 'segment.Check'; 'LightCells'. -/
import Derived.Test.YtghelamfaaakcaaGreatSzS1
set_option linter.unusedVariables false
set_option linter.unusedSimpArgs false
set_option maxRecDepth 100000
namespace Go.Proofs.YtghelamfaaakcaaGreat.Sh
open Go Go.RowKit Go.Proofs.Ev Go.Lib
theorem bzS4 : type_of% (And.intro @ld3 (And.intro @ld2 (And.intro @ld9 (And.intro @ld31 (And.intro @fa31_0 (And.intro @fa31_1 (And.intro @fa31_2 (And.intro @aggC (@Nat.add_zero))))))))) := And.intro @ld3 (And.intro @ld2 (And.intro @ld9 (And.intro @ld31 (And.intro @fa31_0 (And.intro @fa31_1 (And.intro @fa31_2 (And.intro @aggC (@Nat.add_zero))))))))
theorem codNone {a : Nat} : pBin Tryz.prog .eql 54 (.tmp a) (.const .nilIface) .nilIface .nilIface = some (.bool true) := by kernel_rfl
theorem cod1 {a : Nat} : pBin Tryz.prog .eql 54 (.tmp a) (.const .nilIface) (codV 1) .nilIface = some (.bool false) := by kernel_rfl
theorem cod2 {a : Nat} : pBin Tryz.prog .eql 54 (.tmp a) (.const .nilIface) (codV 2) .nilIface = some (.bool false) := by kernel_rfl
theorem cod3 {a : Nat} : pBin Tryz.prog .eql 54 (.tmp a) (.const .nilIface) (codV 3) .nilIface = some (.bool false) := by kernel_rfl
theorem codSome {kind : Int} (hk : 1 ≤ kind ∧ kind ≤ 3) {a : Nat} : pBin Tryz.prog .eql 54 (.tmp a) (.const .nilIface) (codV kind) .nilIface = some (.bool false) := by
  have h : kind = 1 ∨ kind = 2 ∨ kind = 3 := by omega
  rcases h with rfl | rfl | rfl
  · exact cod1
  · exact cod2
  · exact cod3
theorem codV_none {kind : Int} (hk : ¬ (1 ≤ kind ∧ kind ≤ 3)) : codV kind = .nilIface := by
  unfold codV
  rw [if_neg (by omega), if_neg (by omega), if_neg (by omega)]
def chkE (kind : Int) : List CellD → Int
  | [] => 0
  | c :: l => if cellE c ≠ 0 then cellE c else if c.k ≠ kind ∧ c.k ≠ 0 then 11 else chkE kind l
def segE (kind : Int) (l : List CellD) : Int := if 1 ≤ kind ∧ kind ≤ 3 then (if l.length > 4096 then 3 else chkE kind l) else 2
theorem f11_loop {β : Type} {k : Nat} {Q : β → Prop} {h0 : AH} {v : Value} {l : List CellD} {kind : Int} (A : Cells h0 v l) (hl : l.length ≤ 4096) {ke0 : Value → Value → Value → Value → Value → AH → Option β} {kr : Value → AH → Option β} (n : Nat) :
    ∀ {i j : Nat} {h : AH}, i + n = l.length → n < j → Stt Tryz.prog h0.n h0 h [] [] →
      (∀ h' y1 y2 y3 y4, Grow h0 h' → chkE kind (l.drop i) = 0 → Tl (ke0 (.int .i64 kind) y1 y2 y3 y4 h') Q) → (∀ h', Grow h0 h' → chkE kind (l.drop i) ≠ 0 → Tl (kr (.int .i64 (chkE kind (l.drop i))) h') Q) →
      Tl (F11_lrlrrr (eInv env (k + 1)) (k + 1) j (.int .i64 kind) v (.int .i64 l.length) (.int .i64 i) h ke0 kr) Q := by
  induction n with
  | zero =>
    intro i j h hi hj T hk hr
    obtain ⟨j, rfl⟩ : ∃ q, j = q + 1 := ⟨j - 1, by omega⟩
    simp only [F11_lrlrrr]
    repeat (first | (with_reducible apply qzV; simp (disch := omega) only [coreA, Int.reduceBEq, bzS4] <;> with_reducible rfl) | (with_reducible first | apply qzT | apply qzF | apply qzG | apply qzH) | ((with_reducible first | apply qzB | apply qzC | apply qzD); simp (disch := omega) only [coreA, Int.reduceBEq, bzS4] <;> with_reducible rfl))
    exact hk _ _ _ _ _ T.grow (by rw [List.drop_eq_nil_of_le (by omega)]; rfl)
  | succ n ih =>
    intro i j h hi hj T hk hr
    obtain ⟨j, rfl⟩ : ∃ q, j = q + 1 := ⟨j - 1, by omega⟩
    obtain ⟨c, hc⟩ : ∃ c, l[i]? = some c := ⟨_, List.getElem?_eq_getElem (by omega)⟩
    obtain ⟨b, o, hx, hrow⟩ := (A.grow T.grow).at_ hc
    have e : (i : Int) + 1 = ((i + 1 : Nat) : Int) := by omega
    rw [drop_at hc, chkE] at hk hr
    simp only [F11_lrlrrr]
    repeat (first | (with_reducible apply qzV; simp (disch := omega) only [coreA, Int.reduceBEq, bzS4, hx, hrow] <;> with_reducible rfl) | (with_reducible first | apply qzT | apply qzF | apply qzG | apply qzH) | ((with_reducible first | apply qzB | apply qzC | apply qzD); simp (disch := omega) only [coreA, Int.reduceBEq, bzS4, hx, hrow] <;> with_reducible rfl))
    refine Tl.alloc' T ze31 rfl fun b4 h1 T1 _ => ?_
    refine Tl.store' T1 0 rfl sz31 rfl rfl (of_decide_eq_true rfl) fun h2 T2 _ => ?_
    have T2 : Stt Tryz.prog h0.n h0 h2 [Cr b4 c] [] := T2
    obtain ⟨r4, _⟩ := c_at T2 0 rfl
    repeat (first | (with_reducible apply qzV; simp (disch := omega) only [coreA, Int.reduceBEq, bzS4, r4] <;> with_reducible rfl) | (with_reducible first | apply qzT | apply qzF | apply qzG | apply qzH) | ((with_reducible first | apply qzB | apply qzC | apply qzD); simp (disch := omega) only [coreA, Int.reduceBEq, bzS4, r4] <;> with_reducible rfl))
    with_reducible refine Tl.call' T2 (f29c (k := k) c h2) fun h3 T3 _ => ?_
    obtain ⟨_, k4, _⟩ := c_at T3 0 rfl
    by_cases e1 : cellE c = 0
    · rw [if_neg (by simpa using e1)] at hk hr
      by_cases e2 : c.k = kind
      · rw [if_neg (fun q => q.1 e2)] at hk hr
        repeat (first | (with_reducible apply qzV; simp (disch := omega) only [coreA, Int.reduceBEq, bzS4, k4] <;> with_reducible rfl) | (with_reducible first | apply qzT | apply qzF | apply qzG | apply qzH) | ((with_reducible first | apply qzB | apply qzC | apply qzD); simp (disch := omega) only [coreA, Int.reduceBEq, bzS4, k4] <;> with_reducible rfl))
        rw [e]
        exact ih (by omega) (by omega) T3.drop hk hr
      · by_cases e3 : c.k = 0
        · rw [if_neg (fun q => q.2 e3)] at hk hr
          repeat (first | (with_reducible apply qzV; simp (disch := omega) only [coreA, Int.reduceBEq, bzS4, k4] <;> with_reducible rfl) | (with_reducible first | apply qzT | apply qzF | apply qzG | apply qzH) | ((with_reducible first | apply qzB | apply qzC | apply qzD); simp (disch := omega) only [coreA, Int.reduceBEq, bzS4, k4] <;> with_reducible rfl))
          rw [e]
          exact ih (by omega) (by omega) T3.drop hk hr
        · rw [if_pos ⟨e2, e3⟩] at hr
          repeat (first | (with_reducible apply qzV; simp (disch := omega) only [coreA, Int.reduceBEq, bzS4, k4] <;> with_reducible rfl) | (with_reducible first | apply qzT | apply qzF | apply qzG | apply qzH) | ((with_reducible first | apply qzB | apply qzC | apply qzD); simp (disch := omega) only [coreA, Int.reduceBEq, bzS4, k4] <;> with_reducible rfl))
          exact hr _ T3.grow (by decide)
    · rw [if_pos e1] at hr
      repeat (first | (with_reducible apply qzV; simp (disch := omega) only [coreA, Int.reduceBEq, bzS4] <;> with_reducible rfl) | (with_reducible first | apply qzT | apply qzF | apply qzG | apply qzH) | ((with_reducible first | apply qzB | apply qzC | apply qzD); simp (disch := omega) only [coreA, Int.reduceBEq, bzS4] <;> with_reducible rfl))
      exact hr _ T3.grow e1
theorem f11c {k : Nat} {h : AH} {v : Value} {l : List CellD} (kind : Int) (A : Cells h v l) (hl : l.length ≤ 9223372036854775807) (hk : 4096 < k) :
    Tl (eInv env (k + 3) (.func 11) #[] #[.int .i64 kind, v] h) fun r => r.1 = .int .i64 (segE kind l) ∧ Grow h r.2 := by
  rw [F11_call]
  unfold F11 segE
  have hv : ∀ h' : AH, pLen Tryz.prog #[22] v h' = some (.int .i64 l.length) := fun h' => A.len
  with_reducible refine Tl.call' (Stt.init (P := Tryz.prog) h) (f28c (k := k) kind h) fun h1 S1 _ => ?_
  by_cases p : 1 ≤ kind ∧ kind ≤ 3
  · rw [if_pos p]
    have cs := fun a => codSome p (a := a)
    by_cases q : l.length > 4096
    · rw [if_pos q]
      repeat (first | (with_reducible apply qzV; simp (disch := omega) only [coreA, Int.reduceBEq, bzS4, cs, hv] <;> with_reducible rfl) | (with_reducible first | apply qzT | apply qzF | apply qzG | apply qzH) | ((with_reducible first | apply qzB | apply qzC | apply qzD); simp (disch := omega) only [coreA, Int.reduceBEq, bzS4, cs, hv] <;> with_reducible rfl))
      exact ⟨_, rfl, rfl, S1.grow⟩
    · rw [if_neg q]
      repeat (first | (with_reducible apply qzV; simp (disch := omega) only [coreA, Int.reduceBEq, bzS4, cs, hv] <;> with_reducible rfl) | (with_reducible first | apply qzT | apply qzF | apply qzG | apply qzH) | ((with_reducible first | apply qzB | apply qzC | apply qzD); simp (disch := omega) only [coreA, Int.reduceBEq, bzS4, cs, hv] <;> with_reducible rfl))
      refine f11_loop (k := k + 1) (i := 0) A (by omega) l.length (by omega) (by omega) S1 (fun h2 y1 y2 y3 y4 g z => ⟨_, rfl, ?_, g⟩) fun h2 g z => ⟨_, rfl, rfl, g⟩
      rw [List.drop_zero] at z
      rw [z]
  · rw [if_neg p, codV_none p]
    repeat (first | (with_reducible apply qzV; simp (disch := omega) only [coreA, Int.reduceBEq, bzS4, codNone] <;> with_reducible rfl) | (with_reducible first | apply qzT | apply qzF | apply qzG | apply qzH) | ((with_reducible first | apply qzB | apply qzC | apply qzD); simp (disch := omega) only [coreA, Int.reduceBEq, bzS4, codNone] <;> with_reducible rfl))
    exact ⟨_, rfl, rfl, S1.grow⟩
/-- 'LightCells': a bound on how many there are. -/
theorem f27_loop {β : Type} {inv : Inv} {k : Nat} {Q : β → Prop} {h : AH} {v : Value} {bm : Int} {l : List CellD} (S : Cells h v l) (hl : l.length ≤ 2 ^ 40) {ke0 : Value → Value → Value → Value → Value → AH → Option β} {kr : Value → AH → Option β}
    (hk : ∀ y7 y8 y16, Tl (ke0 v (.int .i64 bm) y7 y8 y16 h) Q) (hr : Tl (kr (.bool false) h) Q) (n : Nat) :
    ∀ {i j : Nat} {s : Int}, i + n = l.length → n < j → Tl (F27_lrlrrr inv k j v (.int .i64 bm) (.int .i64 s) (.int .i64 i) h ke0 kr) Q := by
  have hlen : ∀ h', pLen Tryz.prog #[22] v h' = some (.int .i64 l.length) := fun h' => S.len
  induction n with
  | zero =>
    intro i j s hi hj
    obtain ⟨j, rfl⟩ : ∃ q, j = q + 1 := ⟨j - 1, by omega⟩
    simp only [F27_lrlrrr]
    repeat (first | (with_reducible apply qzV; simp (disch := omega) only [coreA, Int.reduceBEq, bzS4, hlen] <;> with_reducible rfl) | (with_reducible first | apply qzT | apply qzF | apply qzG | apply qzH) | ((with_reducible first | apply qzB | apply qzC | apply qzD); simp (disch := omega) only [coreA, Int.reduceBEq, bzS4, hlen] <;> with_reducible rfl))
    exact hk _ _ _
  | succ n ih =>
    intro i j s hi hj
    obtain ⟨j, rfl⟩ : ∃ q, j = q + 1 := ⟨j - 1, by omega⟩
    obtain ⟨c, hc⟩ : ∃ c, l[i]? = some c := ⟨_, List.getElem?_eq_getElem (by omega)⟩
    obtain ⟨b, o, hx, hrow⟩ := S.at_ hc
    have h2 : h.cell b (o + 2) = some (.string c.s) := Ev.cell_of_row (j := 2) hrow (by omega)
    have hs : ∀ h' : AH, pLen Tryz.prog #[9] (.string c.s) h' = some (.int .i64 c.s.size) := fun h' => len_string u9
    have e : (i : Int) + 1 = ((i + 1 : Nat) : Int) := by omega
    simp only [F27_lrlrrr]
    repeat (first | (with_reducible apply qzV; simp (disch := omega) only [coreA, Int.reduceBEq, bzS4, hlen, hx, h2, hs] <;> with_reducible rfl) | (with_reducible first | apply qzT | apply qzF | apply qzG | apply qzH) | ((with_reducible first | apply qzB | apply qzC | apply qzD); simp (disch := omega) only [coreA, Int.reduceBEq, bzS4, hlen, hx, h2, hs] <;> with_reducible rfl))
    by_cases q : IntKind.i64.wrap (s + ((c.s.size : Nat) : Int)) > bm
    · repeat (first | (with_reducible apply qzV; simp (disch := omega) only [coreA, Int.reduceBEq, bzS4] <;> with_reducible rfl) | (with_reducible first | apply qzT | apply qzF | apply qzG | apply qzH) | ((with_reducible first | apply qzB | apply qzC | apply qzD); simp (disch := omega) only [coreA, Int.reduceBEq, bzS4] <;> with_reducible rfl))
      exact hr
    · repeat (first | (with_reducible apply qzV; simp (disch := omega) only [coreA, Int.reduceBEq, bzS4] <;> with_reducible rfl) | (with_reducible first | apply qzT | apply qzF | apply qzG | apply qzH) | ((with_reducible first | apply qzB | apply qzC | apply qzD); simp (disch := omega) only [coreA, Int.reduceBEq, bzS4] <;> with_reducible rfl))
      rw [e]
      exact ih (by omega) (by omega)
theorem f27c {k : Nat} {h : AH} {v : Value} {l : List CellD} (S : Cells h v l) (hl : l.length ≤ 9223372036854775807) (hk : 61 < k) : ∃ b, eInv env (k + 1) (.func 27) #[] #[v, .int .i64 60, .int .i64 600] h = some (.bool b, h) ∧ (b = true → l.length ≤ 60) := by
  have T : Tl (F27 (eInv env k) k v (.int .i64 60) (.int .i64 600) h) fun r => ∃ b, r = (.bool b, h) ∧ (b = true → l.length ≤ 60) := by
    unfold F27
    have hlen : ∀ h', pLen Tryz.prog #[22] v h' = some (.int .i64 l.length) := fun h' => S.len
    by_cases q : l.length > 60
    · repeat (first | (with_reducible apply qzV; simp (disch := omega) only [coreA, Int.reduceBEq, bzS4, hlen] <;> with_reducible rfl) | (with_reducible first | apply qzT | apply qzF | apply qzG | apply qzH) | ((with_reducible first | apply qzB | apply qzC | apply qzD); simp (disch := omega) only [coreA, Int.reduceBEq, bzS4, hlen] <;> with_reducible rfl))
      exact ⟨_, rfl, false, rfl, fun h => by cases h⟩
    · repeat (first | (with_reducible apply qzV; simp (disch := omega) only [coreA, Int.reduceBEq, bzS4, hlen] <;> with_reducible rfl) | (with_reducible first | apply qzT | apply qzF | apply qzG | apply qzH) | ((with_reducible first | apply qzB | apply qzC | apply qzD); simp (disch := omega) only [coreA, Int.reduceBEq, bzS4, hlen] <;> with_reducible rfl))
      exact f27_loop (bm := 600) S (by omega) (fun y7 y8 y16 => ⟨_, rfl, true, rfl, fun _ => by omega⟩) ⟨_, rfl, false, rfl, fun h => by cases h⟩ l.length (i := 0) (by omega) (by omega)
  obtain ⟨r, h1, b, h2, h3⟩ := T
  exact ⟨b, by rw [F27_call, h1, h2], h3⟩
end Go.Proofs.YtghelamfaaakcaaGreat.Sh
