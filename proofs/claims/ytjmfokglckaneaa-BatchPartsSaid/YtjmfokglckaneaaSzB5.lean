/- Rows that fit do so behind a batch; batches cut in two. -/
import Derived.Test.YtjmfokglckaneaaSzWs
import Derived.Test.YtjmfokglckaneaaSzB1
set_option linter.unusedVariables false
set_option linter.unusedSimpArgs false
set_option maxRecDepth 100000
namespace Go.Proofs.Ytjmfokglckaneaa.Sh
open Go Go.RowKit Go.Proofs.Ev
theorem fitsL_set {t : CellD} {c : ColD} (ht : fitC c t = true) : ∀ (C : List ColD) (row : List CellD) (x : Nat), fitsL C row = true → C[x]? = some c → fitsL C (row.set x t) = true
  | [], row, x, _, h => by simp at h
  | d :: C, [], x, h, _ => by simp [fitsL] at h
  | d :: C, v :: row, 0, h, hc => by
    simp at hc; subst hc
    simp only [fitsL, Bool.and_eq_true] at h
    simp [fitsL, ht, h.2]
  | d :: C, v :: row, x + 1, h, hc => by
    simp only [fitsL, Bool.and_eq_true] at h
    simp only [List.set_cons_succ, fitsL, Bool.and_eq_true]
    exact ⟨h.1, fitsL_set ht C row x h.2 (by simpa using hc)⟩
theorem setL_fits {C : List ColD} : ∀ (cs : List Int) (seen : List Int) (ts row : List CellD), updOk C seen cs ts = true → fitsL C row = true → fitsL C (setL row cs ts) = true
  | [], _, _, row, _, h => by rw [setL_z]; exact h
  | _ :: _, _, [], row, h, _ => by simp [updOk] at h
  | c :: cs, seen, t :: ts, row, h, hf => by
    unfold updOk at h
    simp only [Bool.and_eq_true, decide_eq_true_eq] at h
    obtain ⟨⟨h1, h2⟩, _, h3, h4⟩ := h
    unfold setL
    refine setL_fits cs _ ts _ h4 ?_
    split
    · obtain ⟨d, ed⟩ : ∃ d, C[c.toNat]? = some d := ⟨_, List.getElem?_eq_getElem (by omega)⟩
      rw [ed] at h3
      exact fitsL_set h3 C row _ hf ed
    · exact hf
theorem rowOk_set {C : List ColD} {c : ChangeD} {r : List CellD} (hu : updOk C [] c.cols c.to = true) (hr : rowOk C r = true) : rowOk C (updR c r) = true := by
  unfold updR
  split
  · unfold rowOk at hr ⊢
    simp only [Bool.and_eq_true, decide_eq_true_eq] at hr ⊢
    refine ⟨hr.1, ?_, setL_fits _ _ _ _ hu hr.2.2⟩
    rw [setL_len]
    exact hr.2.1
  · exact hr
/-- Rows that fit do so behind a change that may be. -/
theorem one_fits {C : List ColD} {c : ChangeD} {n : Nat} {rows : List (List CellD)} (hc : changeOk C c n = true) (hf : fitRs C rows = true) : fitRs C (oneR rows c) = true := by
  unfold changeOk at hc
  simp only [Bool.and_eq_true] at hc
  obtain ⟨_, _, ⟨h1, _⟩, h2⟩ := hc
  unfold fitRs at hf ⊢
  rw [List.all_eq_true] at hf h1 ⊢
  intro r hr
  unfold oneR at hr
  split at hr
  · rcases List.mem_append.1 hr with hr | hr
    · exact hf r hr
    · exact h1 r hr
  · split at hr
    · exact hf r (List.mem_filter.1 hr).1
    · split at hr
      · obtain ⟨q, hq, rfl⟩ := List.mem_map.1 hr
        exact rowOk_set h2 (hf q hq)
      · exact hf r hr
theorem do_fits {C : List ColD} : ∀ (l : List ChangeD) (n : Nat) (rows : List (List CellD)), batchGo C n l = true → fitRs C rows = true → fitRs C (doR rows l) = true
  | [], _, rows, _, h => h
  | c :: l, n, rows, hb, h => by
    unfold batchGo at hb
    rw [Bool.and_eq_true] at hb
    exact do_fits l _ (oneR rows c) hb.2 (one_fits hb.1 h)
theorem changeOk_mono {C : List ColD} {c : ChangeD} {n m : Nat} (h : changeOk C c n = true) (hm : m ≤ n) : changeOk C c m = true := by
  unfold changeOk at h ⊢
  simp only [Bool.and_eq_true, decide_eq_true_eq] at h ⊢
  obtain ⟨h1, h2, ⟨h3, h4⟩, h5⟩ := h
  exact ⟨h1, h2, ⟨h3, by omega⟩, h5⟩
theorem batchGo_mono {C : List ColD} : ∀ (l : List ChangeD) {n m : Nat}, batchGo C n l = true → m ≤ n → batchGo C m l = true
  | [], _, _, _, _ => rfl
  | c :: l, n, m, h, hm => by
    unfold batchGo at h ⊢
    rw [Bool.and_eq_true] at h ⊢
    exact ⟨changeOk_mono h.1 hm, batchGo_mono l h.2 (by omega)⟩
theorem batchGo_take {C : List ColD} : ∀ (l : List ChangeD) (k n : Nat), batchGo C n l = true → batchGo C n (l.take k) = true
  | [], k, _, _ => by simp [batchGo]
  | c :: l, 0, _, _ => by simp [batchGo]
  | c :: l, k + 1, n, h => by
    unfold batchGo at h
    rw [Bool.and_eq_true] at h
    rw [List.take_succ_cons]
    unfold batchGo
    rw [Bool.and_eq_true]
    exact ⟨h.1, batchGo_take l k _ h.2⟩
theorem batchGo_drop {C : List ColD} : ∀ (l : List ChangeD) (k n : Nat), batchGo C n l = true → batchGo C 0 (l.drop k) = true
  | [], k, _, _ => by simp [batchGo]
  | c :: l, 0, n, h => batchGo_mono _ h (Nat.zero_le _)
  | c :: l, k + 1, n, h => by
    unfold batchGo at h
    rw [Bool.and_eq_true] at h
    exact batchGo_drop l k _ h.2
theorem ok_take {C : List ColD} {l : List ChangeD} {k : Nat} (h : batchOk C l = true) (h1 : 1 ≤ k) (h2 : k < l.length) : batchOk C (l.take k) = true := by
  unfold batchOk at h ⊢
  simp only [Bool.and_eq_true, decide_eq_true_eq] at h ⊢
  exact ⟨h.1, by simp; omega, batchGo_take l k 0 h.2.2⟩
theorem ok_drop {C : List ColD} {l : List ChangeD} {k : Nat} (h : batchOk C l = true) (h1 : 1 ≤ k) (h2 : k < l.length) : batchOk C (l.drop k) = true := by
  unfold batchOk at h ⊢
  simp only [Bool.and_eq_true, decide_eq_true_eq] at h ⊢
  exact ⟨h.1, by simp; omega, batchGo_drop l k 0 h.2.2⟩
theorem brought_take (l : List ChangeD) (k : Nat) : broughtL (l.take k) + broughtL (l.drop k) = broughtL l := by
  unfold broughtL
  rw [← List.sum_append, ← List.map_append, List.take_append_drop]
theorem All2.takeK {α γ : Type} {R : α → γ → Prop} (i : Nat) : ∀ {l : List α} {m : List γ}, All2 R l m → All2 R (l.take i) (m.take i) := by
  induction i with
  | zero => intro l m _; simp only [List.take_zero]; trivial
  | succ i ih =>
    intro l m h
    match l, m, h with
    | [], [], _ => trivial
    | a :: l, b :: m, h => exact ⟨h.1, ih h.2⟩
theorem All2.dropK {α γ : Type} {R : α → γ → Prop} (i : Nat) : ∀ {l : List α} {m : List γ}, All2 R l m → All2 R (l.drop i) (m.drop i) := by
  induction i with
  | zero => intro l m h; exact h
  | succ i ih =>
    intro l m h
    match l, m, h with
    | [], [], _ => trivial
    | a :: l, b :: m, h => exact ih h.2
theorem Changes.takeK {h : AH} {v : Value} {l : List ChangeD} (B : Changes h v l) {i : Nat} (hi : i ≤ l.length) : ∃ v', (∀ h', pSlice Try.prog 24 v none (some (.int .i64 i)) none h' = some v') ∧ Changes h v' (l.take i) := by
  obtain ⟨rows, X, A⟩ := B
  obtain ⟨v', h1, h2, _⟩ := X.take (k := .i64) u24 sz39 (i := i) (by rw [A.len]; exact hi)
  exact ⟨v', h1, _, h2, A.takeK i⟩
theorem Changes.dropK {h : AH} {v : Value} {l : List ChangeD} (B : Changes h v l) (Z : SzV Try.prog h v 5) (hne : l ≠ []) {i : Nat} (hi : i ≤ l.length) : ∃ v', (∀ h', Grow h h' → pSlice Try.prog 24 v (some (.int .i64 i)) none none h' = some v') ∧ Changes h v' (l.drop i) := by
  obtain ⟨rows, X, A⟩ := B
  rcases X with X | ⟨e, _⟩
  · obtain ⟨v', h1, h2⟩ := X.dropK (k := .i64) Z u24 sz39 (i := i) (by rw [A.len]; exact hi)
    exact ⟨v', h1, _, h2.z, A.dropK i⟩
  · subst e
    have := A.len
    exact absurd (List.eq_nil_of_length_eq_zero this.symm) hne
theorem f13e {k : Nat} {n m : Int} (hm : 1 ≤ m) (hm2 : m ≤ 2 ^ 40) (h : AH) : ∃ p : Nat, (p : Int) < m ∧ eInv env (k + 1) (.func 13) #[] #[.int .i64 n, .int .i64 m] h = some (.int .i64 (p : Int), h) := by
  have b1 := Int.tmod_lt_of_pos n (show 0 < m by omega)
  have b2 := Int.lt_tmod_of_pos n (show 0 < m by omega)
  have hr : ∀ x y : Operand, pBin Try.prog .rem 3 x y (.int .i64 n) (.int .i64 m) = some (.int .i64 (n.tmod m)) := fun x y => bin_rem (by omega)
  generalize hz : n.tmod m = z at *
  rw [F13_call]
  by_cases q : z < 0
  · refine ⟨(z + m).toNat, by omega, ?_⟩
    have T : Tl (F13 (eInv env k) k (.int .i64 n) (.int .i64 m) h) fun r => r = (.int .i64 ((z + m).toNat : Int), h) := by
      unfold F13 F13_rlrrr
      repeat (first | (with_reducible apply Tl.val; focus (simp (disch := omega) only [coreA, Int.reduceBEq, hr] <;> with_reducible rfl)) | (with_reducible first | refine Tl.brT ?_ | refine Tl.brF ?_ | refine Tl.gd_on ?_ | refine Tl.gd3_on ?_) | ((with_reducible first | apply Tl.brC | apply Tl.gdC | apply Tl.gd3C); focus (simp (disch := omega) only [coreA, Int.reduceBEq, hr] <;> with_reducible rfl)))
      exact ⟨_, rfl, by rw [show (((z + m).toNat : Nat) : Int) = z + m by omega]⟩
    obtain ⟨r, h1, h2⟩ := T
    rw [h1, h2]
  · refine ⟨z.toNat, by omega, ?_⟩
    have T : Tl (F13 (eInv env k) k (.int .i64 n) (.int .i64 m) h) fun r => r = (.int .i64 (z.toNat : Int), h) := by
      unfold F13 F13_rlrrr
      repeat (first | (with_reducible apply Tl.val; focus (simp (disch := omega) only [coreA, Int.reduceBEq, hr] <;> with_reducible rfl)) | (with_reducible first | refine Tl.brT ?_ | refine Tl.brF ?_ | refine Tl.gd_on ?_ | refine Tl.gd3_on ?_) | ((with_reducible first | apply Tl.brC | apply Tl.gdC | apply Tl.gd3C); focus (simp (disch := omega) only [coreA, Int.reduceBEq, hr] <;> with_reducible rfl)))
      exact ⟨_, rfl, by rw [show ((z.toNat : Nat) : Int) = z by omega]⟩
    obtain ⟨r, h1, h2⟩ := T
    rw [h1, h2]
end Go.Proofs.Ytjmfokglckaneaa.Sh
