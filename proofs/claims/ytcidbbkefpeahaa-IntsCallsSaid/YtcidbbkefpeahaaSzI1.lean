/- 'IntsOrder' comes to true: the chapter's examples, the arithmetic. -/
import Derived.Test.YtcidbbkefpeahaaSzIc
import Derived.Test.YtcidbbkefpeahaaSzBs
set_option linter.unusedVariables false
set_option linter.unusedSimpArgs false
set_option maxRecDepth 100000
namespace Go.Proofs.Ytcidbbkefpeahaa.Sh
open Go Go.RowKit Go.Proofs.Ev
theorem base_I1 : type_of% (And.intro @ld2 (And.intro @ld3 (And.intro @ld4 (And.intro @ld5 (And.intro @ld25 (And.intro @ld26 (And.intro @ex2_0 (@ex2_1)))))))) := And.intro @ld2 (And.intro @ld3 (And.intro @ld4 (And.intro @ld5 (And.intro @ld25 (And.intro @ld26 (And.intro @ex2_0 (@ex2_1)))))))
/-! ### The chapter's examples -/
theorem pv (n : Nat) (h : n < 128) : pvarN n = [n] := pvarN_lt h
theorem put7 : putI [7, 7, 7, 7] = [2, 4, 4, 7, 0, 0, 0, 0, 0, 0, 0] := by
  have hr : runsB [7, 7, 7, 7] = [2, 4, 4, 7, 0, 0, 0, 0, 0, 0, 0] := by
    unfold runsB headB
    simp only [List.length_cons, List.length_nil, runsI, rli, if_true, List.flatMap_cons, List.flatMap_nil, runB]
    rw [pv 4 (by omega)]
    rfl
  have hp : (plainB [7, 7, 7, 7]).length = 34 := by
    unfold plainB headB
    rw [List.length_append, flat8_len]
    simp only [List.length_cons, List.length_nil]
    rw [pv 4 (by omega)]
    rfl
  have hk : 11 ≤ (packB [7, 7, 7, 7]).length := by
    unfold packB headB
    simp only [List.length_cons, List.length_nil, List.length_append, le_len]
    rw [pv 4 (by omega)]
    simp
    omega
  unfold putI
  have e : (if (runsB [7, 7, 7, 7]).length < (plainB [7, 7, 7, 7]).length then runsB [7, 7, 7, 7] else plainB [7, 7, 7, 7]) = [2, 4, 4, 7, 0, 0, 0, 0, 0, 0, 0] := by
    rw [hp, hr]; exact if_pos (by decide)
  simp only [e]
  exact if_neg (by simp only [List.length_cons, List.length_nil]; omega)
theorem put56 : putI [5, 6] = [3, 2, 5, 0, 0, 0, 0, 0, 0, 0, 1, 2] := by
  have hm : moreI [5, 6] = [0, 1] := by decide
  have hw : widI [5, 6] = 1 := by
    unfold widI
    rw [hm]
    have h1 : Pk.widthN [0, 1] ≤ 1 := by rw [Pk.width_le]; decide
    have h0 : ¬ Pk.widthN [0, 1] ≤ 0 := by rw [Pk.width_le]; decide
    omega
  have hk : packB [5, 6] = [3, 2, 5, 0, 0, 0, 0, 0, 0, 0, 1, 2] := by
    unfold packB headB
    rw [hw, hm]
    simp only [List.length_cons, List.length_nil]
    rw [pv 2 (by omega)]
    decide
  have hr : (runsB [5, 6]).length = 20 := by
    unfold runsB headB
    simp only [List.length_cons, List.length_nil, runsI, rli, List.flatMap_cons, List.flatMap_nil, runB]
    rw [pv 2 (by omega), if_neg (by decide)]
    simp only [List.flatMap_cons, List.flatMap_nil, runB]
    rw [pv 1 (by omega)]
    simp [le_len]
  have hp : (plainB [5, 6]).length = 18 := by
    unfold plainB headB
    rw [List.length_append, flat8_len]
    simp only [List.length_cons, List.length_nil]
    rw [pv 2 (by omega)]
    rfl
  unfold putI
  have e : (if (runsB [5, 6]).length < (plainB [5, 6]).length then runsB [5, 6] else plainB [5, 6]) = plainB [5, 6] := by
    rw [hp, hr]; exact if_neg (by decide)
  simp only [e]
  rw [hp, hk]
  exact if_pos (by decide)
theorem bs7 (h : AH) : pBuildSlice Try.prog 25 4 #[(0, (.int .i64 7)), (1, (.int .i64 7)), (2, (.int .i64 7)), (3, (.int .i64 7))] h = some (.slice (some ⟨h.n, 0, none⟩) 4 4, h.alloc (.cells (i6rows [7, 7, 7, 7]).flatten 2 true)) := by kernel_rfl
theorem bs56 (h : AH) : pBuildSlice Try.prog 25 2 #[(0, (.int .i64 5)), (1, (.int .i64 6))] h = some (.slice (some ⟨h.n, 0, none⟩) 2 2, h.alloc (.cells (i6rows [5, 6]).flatten 2 true)) := by kernel_rfl
theorem i6wide (l : List Int) : ∀ r ∈ i6rows l, r.length = 1 := fun r hr => by obtain ⟨z, _, rfl⟩ := List.mem_map.1 hr; rfl
theorem lives_call {k : Nat} {n0 : Nat} {h0 h : AH} {L : List (Nat × AO)} {O : List OS} (S : Stt Try.prog n0 h0 h L O) : Tl (eInv env (k + 600) (.func 8) #[] #[] h) fun r => r.1 = .bool true ∧ Grow h r.2 := by
  rw [F8_call]
  unfold F8
  repeat (first | (with_reducible apply Tl.val; focus (simp (disch := omega) only [coreA, Int.reduceBEq, base_I1, bs7] <;> with_reducible rfl)) | (with_reducible first | refine Tl.brT ?_ | refine Tl.brF ?_ | refine Tl.gd_on ?_ | refine Tl.gd3_on ?_) | ((with_reducible first | apply Tl.brC | apply Tl.gdC | apply Tl.gd3C); focus (simp (disch := omega) only [coreA, Int.reduceBEq, base_I1, bs7] <;> with_reducible rfl)))
  have S1 : Stt Try.prog h.n h (h.alloc (.cells (i6rows [7, 7, 7, 7]).flatten 2 true)) ((h.n, .cells (i6rows [7, 7, 7, 7]).flatten 2 true) :: []) [] := (Stt.init h).alloc _
  have S1 := S1.absorb (n := 1) (i6wide _) sz2
  refine Tl.bind (f10c (k := k + 98) (l := [7, 7, 7, 7]) (S1.sl1 (f := i6v) 0 rfl) (by simp) (by simp)) ?_
  rintro ⟨r, h2⟩ ⟨av, er, g2, B1⟩
  simp only at er g2 B1
  subst er
  have S2 := S1.call g2
  repeat (first | (with_reducible apply Tl.val; focus (simp (disch := omega) only [coreA, Int.reduceBEq, base_I1, bs56] <;> with_reducible rfl)) | (with_reducible first | refine Tl.brT ?_ | refine Tl.brF ?_ | refine Tl.gd_on ?_ | refine Tl.gd3_on ?_) | ((with_reducible first | apply Tl.brC | apply Tl.gdC | apply Tl.gd3C); focus (simp (disch := omega) only [coreA, Int.reduceBEq, base_I1, bs56] <;> with_reducible rfl)))
  have S3 : Stt Try.prog h.n h (h2.alloc (.cells (i6rows [5, 6]).flatten 2 true)) ((h2.n, .cells (i6rows [5, 6]).flatten 2 true) :: []) _ := S2.alloc _
  have S3 := S3.absorb (n := 1) (i6wide _) sz2
  refine Tl.bind (f10c (k := k + 98) (l := [5, 6]) (S3.sl1 (f := i6v) 0 rfl) (by simp) (by simp)) ?_
  rintro ⟨r, h4⟩ ⟨bv, er, g4, B2⟩
  simp only at er g4 B2
  subst er
  have S4 := S3.call g4
  have B1' : Bytes h4 av _ := B1.grow ((Grow.alloc _ _).trans g4)
  have c1 := convB B1'
  have c2 := convB B2
  rw [put7] at c1
  rw [put56] at c2
  have e1 : ∀ x y, pBin Try.prog .eql 9 x y (.string (strB [2, 4, 4, 7, 0, 0, 0, 0, 0, 0, 0])) (.string { data := #[2, 4, 4, 7, 0, 0, 0, 0, 0, 0, 0] }) = some (.bool true) := fun x y => by rw [bin_eql_string]; rfl
  have e2 : ∀ x y, pBin Try.prog .eql 9 x y (.string (strB [3, 2, 5, 0, 0, 0, 0, 0, 0, 0, 1, 2])) (.string { data := #[3, 2, 5, 0, 0, 0, 0, 0, 0, 0, 1, 2] }) = some (.bool true) := fun x y => by rw [bin_eql_string]; rfl
  repeat (first | (with_reducible apply Tl.val; focus (simp (disch := omega) only [coreA, Int.reduceBEq, base_I1, c1, c2, e1, e2] <;> with_reducible rfl)) | (with_reducible first | refine Tl.brT ?_ | refine Tl.brF ?_ | refine Tl.gd_on ?_ | refine Tl.gd3_on ?_) | ((with_reducible first | apply Tl.brC | apply Tl.gdC | apply Tl.gd3C); focus (simp (disch := omega) only [coreA, Int.reduceBEq, base_I1, c1, c2, e1, e2] <;> with_reducible rfl)))
  exact ⟨_, rfl, rfl, S4.grow⟩
/-! ### The arithmetic -/
theorem plain_len (l : List Int) : (plainB l).length = 1 + (pvarN l.length).length + 8 * l.length := by
  unfold plainB headB
  rw [List.length_append, flat8_len]
  simp
  omega
theorem pack_len (l : List Int) : (packB l).length = 10 + (pvarN l.length).length + (l.length * widI l + 7) / 8 := by
  unfold packB headB
  have := (putN_spec (widI l) (moreI l)).2.1
  have ml : (moreI l).length = l.length := by simp [moreI]
  rw [ml] at this
  simp only [List.length_append, List.length_cons, le_len, this]
  omega
def runsLen (rs : List (Nat × Int)) : Nat := (rs.flatMap runB).length
theorem runs_len (l : List Int) : (runsB l).length = 1 + (pvarN l.length).length + runsLen (runsI l) := by
  unfold runsB headB runsLen
  simp only [List.length_append, List.length_cons]
  omega
theorem rli_small (l : List Int) : ∀ (b : Int) (n : Nat), n + l.length ≤ 1000000 → runsLen (rli b n l) ≤ 18 * (l.length + 1) := by
  induction l with
  | nil =>
    intro b n h
    have := pvarN_le10 (n := n) (by simp at h; omega)
    simp only [rli, runsLen, List.flatMap_cons, List.flatMap_nil, List.append_nil, runB, List.length_append, le_len, List.length_nil]
    omega
  | cons c l ih =>
    intro b n h
    simp only [List.length_cons] at h
    unfold rli
    split
    · have := ih b (n + 1) (by omega)
      simp only [List.length_cons]; omega
    · have h1 := ih c 1 (by omega)
      have h2 := pvarN_le10 (n := n) (by omega)
      have e : runsLen ((n, b) :: rli c 1 l) = (runB (n, b)).length + runsLen (rli c 1 l) := by simp [runsLen]
      rw [e]
      simp only [runB, List.length_append, le_len, List.length_cons]
      omega
theorem runs_small (l : List Int) (h : l.length ≤ 100000) : (runsB l).length ≤ 20 + 18 * (l.length + 1) := by
  rw [runs_len]
  have h10 := pvarN_le10 (n := l.length) (by omega)
  cases l with
  | nil => simp [runsI, runsLen] at *; omega
  | cons b l =>
    have := rli_small l b 1 (by simp at h; omega)
    simp only [runsI, List.length_cons] at *
    omega
end Go.Proofs.Ytcidbbkefpeahaa.Sh
