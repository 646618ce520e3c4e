/- Which columns may be, as the document and as the schema's package tell; rows that fit. -/
import Derived.Test.YtgklcfnjahomjaaSzVg
set_option linter.unusedVariables false
set_option linter.unusedSimpArgs false
set_option maxRecDepth 100000
namespace Go.Proofs.Ytgklcfnjahomjaa.Sh
open Go Go.RowKit Go.Proofs.Ev
theorem base_Vh : type_of% (And.intro @ld3 (And.intro @ld2 (And.intro @ld4 (And.intro @ld9 (And.intro @ld37 (And.intro @ld42 (And.intro @fa37_0 (And.intro @fa37_1 (And.intro @fa37_2 (And.intro @fa42_0 (And.intro @fa42_1 (And.intro @fa42_2 (@Nat.add_zero))))))))))))) := And.intro @ld3 (And.intro @ld2 (And.intro @ld4 (And.intro @ld9 (And.intro @ld37 (And.intro @ld42 (And.intro @fa37_0 (And.intro @fa37_1 (And.intro @fa37_2 (And.intro @fa42_0 (And.intro @fa42_1 (And.intro @fa42_2 (@Nat.add_zero))))))))))))
structure ColD where
  name : ByteArray
  kind : Int
  null : Bool
def colrow (c : ColD) : List Value := [.string c.name, .int .i64 c.kind, .bool c.null]
def Cols (h : AH) (v : Value) (l : List ColD) : Prop := SlZ Try.prog h v 3 (l.map colrow)
theorem Cols.grow {h h' : AH} {v : Value} {l : List ColD} (S : Cols h v l) (g : Grow h h') : Cols h' v l := SlZ.grow S g
theorem Cols.len {h h' : AH} {v : Value} {l : List ColD} (S : Cols h v l) : pLen Try.prog #[22] v h' = some (.int .i64 l.length) := by
  have := SlZ.len S u22 (h' := h')
  rwa [List.length_map] at this
theorem Cols.at_ {h : AH} {v : Value} {l : List ColD} (S : Cols h v l) {i : Nat} {x : ColD} (hi : l[i]? = some x) :
    ∃ b o, pIndexAddr Try.prog 22 v (.int .i64 i) = some (.pointer (some ⟨b, o, none⟩)) ∧ h.row b o 3 = some (colrow x) :=
  SlZ.at_ S (k := .i64) (by simp [hi]) u22 sz42
theorem Cols.take {h : AH} {v : Value} {l : List ColD} (S : Cols h v l) {i : Nat} (hi : i ≤ l.length) : ∃ v', (∀ h', pSlice Try.prog 22 v none (some (.int .i64 i)) none h' = some v') ∧ Cols h v' (l.take i) := by
  obtain ⟨v', h1, h2, _⟩ := SlZ.take S u22 sz42 (k := .i64) (i := i) (by simpa using hi)
  exact ⟨v', h1, by rw [← List.map_take] at h2; exact h2⟩
/-! ### Light columns -/
def lightC (l : List ColD) : Bool := (l.all fun c => decide (c.name.size ≤ 60)) && decide (l.length ≤ 20)
theorem f33_loop {β : Type} {inv : Inv} {k : Nat} {Q : β → Prop} {h : AH} {v : Value} {l : List ColD} (S : Cols h v l) (hl : l.length ≤ 9223372036854775807) {ke0 : Value → Value → Value → AH → Option β} {kr : Value → AH → Option β} (n : Nat) :
    ∀ {i j : Nat}, i + n = l.length → n < j → (((l.drop i).all fun c => decide (c.name.size ≤ 60)) = true → ∀ y1 y2, Tl (ke0 v y1 y2 h) Q) → (((l.drop i).all fun c => decide (c.name.size ≤ 60)) = false → Tl (kr (.bool false) h) Q) →
      Tl (F33_lrlr inv k j v (.int .i64 i) h ke0 kr) Q := by
  have hv : ∀ h', pLen Try.prog #[22] v h' = some (.int .i64 l.length) := fun h' => S.len
  induction n with
  | zero =>
    intro i j hi hj hk hr
    obtain ⟨j, rfl⟩ : ∃ q, j = q + 1 := ⟨j - 1, by omega⟩
    simp only [F33_lrlr]
    repeat (first | (with_reducible apply Tl.val; focus (simp (disch := omega) only [coreA, Int.reduceBEq, base_Vh, hv] <;> with_reducible rfl)) | (with_reducible first | refine Tl.brT ?_ | refine Tl.brF ?_ | refine Tl.gd_on ?_ | refine Tl.gd3_on ?_) | ((with_reducible first | apply Tl.brC | apply Tl.gdC | apply Tl.gd3C); focus (simp (disch := omega) only [coreA, Int.reduceBEq, base_Vh, hv] <;> with_reducible rfl)))
    exact hk (by rw [List.drop_eq_nil_of_le (by omega)]; rfl) _ _
  | succ n ih =>
    intro i j hi hj hk hr
    obtain ⟨j, rfl⟩ : ∃ q, j = q + 1 := ⟨j - 1, by omega⟩
    obtain ⟨x, ex⟩ : ∃ x, l[i]? = some x := ⟨_, List.getElem?_eq_getElem (by omega)⟩
    obtain ⟨b, o, hp, hrow⟩ := S.at_ ex
    have c0 : h.cell b o = some (.string x.name) := Ev.cell_of_row (j := 0) hrow (by omega)
    have hs : ∀ h' : AH, pLen Try.prog #[9] (.string x.name) h' = some (.int .i64 x.name.size) := fun h' => len_string u9
    have e : (i : Int) + 1 = ((i + 1 : Nat) : Int) := by omega
    simp only [F33_lrlr]
    rw [drop_at ex, List.all_cons] at hk hr
    by_cases q2 : x.name.size ≤ 60
    · rw [decide_eq_true q2, Bool.true_and] at hk hr
      repeat (first | (with_reducible apply Tl.val; focus (simp (disch := omega) only [coreA, Int.reduceBEq, base_Vh, hv, hp, c0, hs] <;> with_reducible rfl)) | (with_reducible first | refine Tl.brT ?_ | refine Tl.brF ?_ | refine Tl.gd_on ?_ | refine Tl.gd3_on ?_) | ((with_reducible first | apply Tl.brC | apply Tl.gdC | apply Tl.gd3C); focus (simp (disch := omega) only [coreA, Int.reduceBEq, base_Vh, hv, hp, c0, hs] <;> with_reducible rfl)))
      rw [e]
      exact ih (by omega) (by omega) hk hr
    · rw [decide_eq_false q2, Bool.false_and] at hr
      repeat (first | (with_reducible apply Tl.val; focus (simp (disch := omega) only [coreA, Int.reduceBEq, base_Vh, hv, hp, c0, hs] <;> with_reducible rfl)) | (with_reducible first | refine Tl.brT ?_ | refine Tl.brF ?_ | refine Tl.gd_on ?_ | refine Tl.gd3_on ?_) | ((with_reducible first | apply Tl.brC | apply Tl.gdC | apply Tl.gd3C); focus (simp (disch := omega) only [coreA, Int.reduceBEq, base_Vh, hv, hp, c0, hs] <;> with_reducible rfl)))
      exact hr rfl
theorem f33c {k : Nat} {h : AH} {v : Value} {l : List ColD} (S : Cols h v l) (hl : l.length ≤ 9223372036854775807) (hk : l.length < k) : eInv env (k + 1) (.func 33) #[] #[v] h = some (.bool (lightC l), h) := by
  rw [F33_call]
  have T : Tl (F33 (eInv env k) k v h) fun r => r = (.bool (lightC l), h) := by
    unfold F33
    have hv : ∀ h', pLen Try.prog #[22] v h' = some (.int .i64 l.length) := fun h' => S.len
    refine f33_loop S hl l.length (i := 0) (by omega) hk (fun q y1 y2 => ?_) fun q => ⟨_, rfl, ?_⟩
    · rw [List.drop_zero] at q
      repeat (first | (with_reducible apply Tl.val; focus (simp (disch := omega) only [coreA, Int.reduceBEq, base_Vh, hv] <;> with_reducible rfl)) | (with_reducible first | refine Tl.brT ?_ | refine Tl.brF ?_ | refine Tl.gd_on ?_ | refine Tl.gd3_on ?_) | ((with_reducible first | apply Tl.brC | apply Tl.gdC | apply Tl.gd3C); focus (simp (disch := omega) only [coreA, Int.reduceBEq, base_Vh, hv] <;> with_reducible rfl)))
      refine ⟨_, rfl, ?_⟩
      unfold lightC
      rw [q, Bool.true_and]
      congr 2
      simp
      omega
    · rw [List.drop_zero] at q
      unfold lightC
      rw [q, Bool.false_and]
  obtain ⟨r, h1, h2⟩ := T
  rw [h1, h2]
/-! ### Columns that may be -/
def colsF : List ColD → List ColD → Bool
  | _, [] => true
  | pre, c :: l => nameOk c.name && (decide (1 ≤ c.kind ∧ c.kind ≤ 3) && (!(pre.any fun o => decide (o.name = c.name)) && colsF (pre ++ [c]) l))
def colsOk (l : List ColD) : Bool := decide (1 ≤ l.length) && (decide (l.length ≤ 16) && colsF [] l)
/-- The error of columns, as both tell it. -/
def colsFE : List ColD → List ColD → Int
  | _, [] => 0
  | pre, c :: l => if nameOk c.name = true then (if 1 ≤ c.kind ∧ c.kind ≤ 3 then (if (pre.any fun o => decide (o.name = c.name)) = true then 171 else colsFE (pre ++ [c]) l) else 171) else 170
def colsE (l : List ColD) : Int := if 1 ≤ l.length ∧ l.length ≤ 16 then colsFE [] l else 171
theorem colsFE_zero : ∀ (pre l : List ColD), colsFE pre l = 0 ↔ colsF pre l = true
  | _, [] => by simp [colsFE, colsF]
  | pre, c :: l => by
    have ih := colsFE_zero (pre ++ [c]) l
    unfold colsFE colsF
    cases q1 : nameOk c.name with
    | false => simp
    | true =>
      by_cases q2 : 1 ≤ c.kind ∧ c.kind ≤ 3
      · cases q3 : pre.any fun o => decide (o.name = c.name) with
        | false => rw [if_pos rfl, if_pos q2, if_neg (by simp), ih, decide_eq_true q2]; simp
        | true => rw [if_pos rfl, if_pos q2, if_pos rfl]; simp
      · rw [if_pos rfl, if_neg q2, decide_eq_false q2]; simp
theorem colsE_zero (l : List ColD) : colsE l = 0 ↔ colsOk l = true := by
  unfold colsE colsOk
  by_cases q : 1 ≤ l.length ∧ l.length ≤ 16
  · rw [if_pos q, colsFE_zero, decide_eq_true q.1, decide_eq_true q.2]; simp
  · rw [if_neg q]
    by_cases q1 : 1 ≤ l.length
    · have q2 : ¬ l.length ≤ 16 := fun h => q ⟨q1, h⟩
      simp [q2]
    · simp [q1]
end Go.Proofs.Ytgklcfnjahomjaa.Sh
