/- 'IntsOrder' comes to true: the chapter's examples, the arithmetic. -/
import Derived.Test.YtcidbbkefpeahaaSzIc
import Derived.Test.YtcidbbkefpeahaaSzBs
set_option linter.unusedVariables false
set_option linter.unusedSimpArgs false
set_option maxRecDepth 100000
namespace Go.Proofs.Ytcidbbkefpeahaa.Sh
open Go Go.RowKit Go.Proofs.Ev
theorem base_I1 : type_of% (And.intro @ld2 (And.intro @ld3 (And.intro @ld4 (And.intro @ld5 (And.intro @ld25 (And.intro @ld26 (And.intro @ex2_0 (@ex2_1)))))))) := And.intro @ld2 (And.intro @ld3 (And.intro @ld4 (And.intro @ld5 (And.intro @ld25 (And.intro @ld26 (And.intro @ex2_0 (@ex2_1)))))))
/-! ### The chapter's examples -/
theorem pv (n : Nat) (h : n < 128) : pvarN n = [n] := pvarN_lt h
theorem toU_nat (n : Nat) (h : n < 18446744073709551616) : toU (n : Int) = n := by unfold toU; omega
theorem put7 : putI [7, 7, 7, 7] = [2, 4, 4, 7, 0, 0, 0, 0, 0, 0, 0] := by
  have hr : runsB [7, 7, 7, 7] = [2, 4, 4, 7, 0, 0, 0, 0, 0, 0, 0] := by
    unfold runsB headB
    simp only [List.length_cons, List.length_nil, runsI, rli, if_true, List.flatMap_cons, List.flatMap_nil, runB]
    rw [pv 4 (by omega)]
    rfl
  have hp : (plainB [7, 7, 7, 7]).length = 34 := by
    unfold plainB headB
    rw [List.length_append, flat8_len]
    simp only [List.length_cons, List.length_nil]
    rw [pv 4 (by omega)]
    rfl
  have hk : 11 ≤ (packB [7, 7, 7, 7]).length := by
    unfold packB headB
    simp only [List.length_cons, List.length_nil, List.length_append, le_len]
    rw [pv 4 (by omega)]
    simp
    omega
  unfold putI
  have e : (if (runsB [7, 7, 7, 7]).length < (plainB [7, 7, 7, 7]).length then runsB [7, 7, 7, 7] else plainB [7, 7, 7, 7]) = [2, 4, 4, 7, 0, 0, 0, 0, 0, 0, 0] := by
    rw [hp, hr]; exact if_pos (by decide)
  simp only [e]
  exact if_neg (by simp only [List.length_cons, List.length_nil]; omega)
theorem put56 : putI [5, 6] = [3, 2, 5, 0, 0, 0, 0, 0, 0, 0, 1, 2] := by
  have hm : moreI [5, 6] = [0, 1] := by decide
  have hw : widI [5, 6] = 1 := by
    unfold widI
    rw [hm]
    have h1 : Pk.widthN [0, 1] ≤ 1 := by rw [Pk.width_le]; decide
    have h0 : ¬ Pk.widthN [0, 1] ≤ 0 := by rw [Pk.width_le]; decide
    omega
  have hk : packB [5, 6] = [3, 2, 5, 0, 0, 0, 0, 0, 0, 0, 1, 2] := by
    unfold packB headB
    rw [hw, hm]
    simp only [List.length_cons, List.length_nil]
    rw [pv 2 (by omega)]
    decide
  have hr : (runsB [5, 6]).length = 20 := by
    unfold runsB headB
    simp only [List.length_cons, List.length_nil, runsI, rli, List.flatMap_cons, List.flatMap_nil, runB]
    rw [pv 2 (by omega), if_neg (by decide)]
    simp only [List.flatMap_cons, List.flatMap_nil, runB]
    rw [pv 1 (by omega)]
    simp [le_len]
  have hp : (plainB [5, 6]).length = 18 := by
    unfold plainB headB
    rw [List.length_append, flat8_len]
    simp only [List.length_cons, List.length_nil]
    rw [pv 2 (by omega)]
    rfl
  unfold putI
  have e : (if (runsB [5, 6]).length < (plainB [5, 6]).length then runsB [5, 6] else plainB [5, 6]) = plainB [5, 6] := by
    rw [hp, hr]; exact if_neg (by decide)
  simp only [e]
  rw [hp, hk]
  exact if_pos (by decide)
theorem bs7 (h : AH) : pBuildSlice Try.prog 25 4 #[(0, (.int .i64 7)), (1, (.int .i64 7)), (2, (.int .i64 7)), (3, (.int .i64 7))] h = some (.slice (some ⟨h.n, 0, none⟩) 4 4, h.alloc (.cells (i6rows [7, 7, 7, 7]).flatten 2 true)) := by kernel_rfl
theorem bs56 (h : AH) : pBuildSlice Try.prog 25 2 #[(0, (.int .i64 5)), (1, (.int .i64 6))] h = some (.slice (some ⟨h.n, 0, none⟩) 2 2, h.alloc (.cells (i6rows [5, 6]).flatten 2 true)) := by kernel_rfl
theorem i6wide (l : List Int) : ∀ r ∈ i6rows l, r.length = 1 := fun r hr => by obtain ⟨z, _, rfl⟩ := List.mem_map.1 hr; rfl
theorem lives_call {k : Nat} {n0 : Nat} {h0 h : AH} {L : List (Nat × AO)} {O : List OS} (S : Stt Try.prog n0 h0 h L O) : Tl (eInv env (k + 600) (.func 8) #[] #[] h) fun r => r.1 = .bool true ∧ Grow h r.2 := by
  rw [F8_call]
  unfold F8
  repeat (first | (with_reducible apply Tl.val; focus (simp (disch := omega) only [coreA, Int.reduceBEq, base_I1, bs7] <;> with_reducible rfl)) | with_reducible refine Tl.brT ?_ | with_reducible refine Tl.brF ?_ | with_reducible refine Tl.gd_on ?_ | with_reducible refine Tl.gd3_on ?_ | ((first | with_reducible apply Tl.brC | with_reducible apply Tl.gdC | with_reducible apply Tl.gd3C); focus (simp (disch := omega) only [coreA, Int.reduceBEq, base_I1, bs7] <;> with_reducible rfl)))
  have S1 : Stt Try.prog h.n h (h.alloc (.cells (i6rows [7, 7, 7, 7]).flatten 2 true)) ((h.n, .cells (i6rows [7, 7, 7, 7]).flatten 2 true) :: []) [] := (Stt.init h).alloc _
  have S1 := S1.absorb (n := 1) (i6wide _) sz2
  refine Tl.bind (f10c (k := k + 98) (l := [7, 7, 7, 7]) (S1.sl1 (f := i6v) 0 rfl) (by simp) (by simp)) ?_
  rintro ⟨r, h2⟩ ⟨av, er, g2, B1⟩
  simp only at er g2 B1
  subst er
  have S2 := S1.call g2
  repeat (first | (with_reducible apply Tl.val; focus (simp (disch := omega) only [coreA, Int.reduceBEq, base_I1, bs56] <;> with_reducible rfl)) | with_reducible refine Tl.brT ?_ | with_reducible refine Tl.brF ?_ | with_reducible refine Tl.gd_on ?_ | with_reducible refine Tl.gd3_on ?_ | ((first | with_reducible apply Tl.brC | with_reducible apply Tl.gdC | with_reducible apply Tl.gd3C); focus (simp (disch := omega) only [coreA, Int.reduceBEq, base_I1, bs56] <;> with_reducible rfl)))
  have S3 : Stt Try.prog h.n h (h2.alloc (.cells (i6rows [5, 6]).flatten 2 true)) ((h2.n, .cells (i6rows [5, 6]).flatten 2 true) :: []) _ := S2.alloc _
  have S3 := S3.absorb (n := 1) (i6wide _) sz2
  refine Tl.bind (f10c (k := k + 98) (l := [5, 6]) (S3.sl1 (f := i6v) 0 rfl) (by simp) (by simp)) ?_
  rintro ⟨r, h4⟩ ⟨bv, er, g4, B2⟩
  simp only at er g4 B2
  subst er
  have S4 := S3.call g4
  have B1' : Bytes h4 av _ := B1.grow ((Grow.alloc _ _).trans g4)
  have c1 := convB B1'
  have c2 := convB B2
  rw [put7] at c1
  rw [put56] at c2
  have e1 : ∀ x y, pBin Try.prog .eql 9 x y (.string (strB [2, 4, 4, 7, 0, 0, 0, 0, 0, 0, 0])) (.string { data := #[2, 4, 4, 7, 0, 0, 0, 0, 0, 0, 0] }) = some (.bool true) := fun x y => by rw [bin_eql_string]; rfl
  have e2 : ∀ x y, pBin Try.prog .eql 9 x y (.string (strB [3, 2, 5, 0, 0, 0, 0, 0, 0, 0, 1, 2])) (.string { data := #[3, 2, 5, 0, 0, 0, 0, 0, 0, 0, 1, 2] }) = some (.bool true) := fun x y => by rw [bin_eql_string]; rfl
  repeat (first | (with_reducible apply Tl.val; focus (simp (disch := omega) only [coreA, Int.reduceBEq, base_I1, c1, c2, e1, e2] <;> with_reducible rfl)) | with_reducible refine Tl.brT ?_ | with_reducible refine Tl.brF ?_ | with_reducible refine Tl.gd_on ?_ | with_reducible refine Tl.gd3_on ?_ | ((first | with_reducible apply Tl.brC | with_reducible apply Tl.gdC | with_reducible apply Tl.gd3C); focus (simp (disch := omega) only [coreA, Int.reduceBEq, base_I1, c1, c2, e1, e2] <;> with_reducible rfl)))
  exact ⟨_, rfl, rfl, S4.grow⟩
/-! ### The arithmetic -/
theorem pvarN_length (n : Nat) : (pvarN n).length = (pvar n).length := by unfold pvarN; simp
theorem pvarN_mono {a b : Nat} (h : a ≤ b) : (pvarN a).length ≤ (pvarN b).length := by
  rw [pvarN_length, pvarN_length]; exact pvar_mono h
theorem pvarN_succ (n : Nat) : (pvarN (n + 1)).length ≤ (pvarN n).length + 1 := by
  induction n using Nat.strongRecOn with
  | _ n ih =>
    by_cases h1 : n + 1 < 128
    · rw [pvarN_lt h1]; simp
    · rw [pvarN_ge h1, List.length_cons]
      by_cases h2 : n < 128
      · rw [pvarN_lt h2]
        have : (n + 1) / 128 = 1 := by omega
        rw [this, pvarN_lt (by omega)]
        simp
      · rw [pvarN_ge h2, List.length_cons]
        by_cases h3 : (n + 1) / 128 = n / 128
        · rw [h3]; omega
        · have h4 : (n + 1) / 128 = n / 128 + 1 := by omega
          rw [h4]
          have := ih (n / 128) (by omega)
          omega
theorem plain_len (l : List Int) : (plainB l).length = 1 + (pvarN l.length).length + 8 * l.length := by
  unfold plainB headB
  rw [List.length_append, flat8_len]
  simp
  omega
theorem pack_len (l : List Int) : (packB l).length = 10 + (pvarN l.length).length + (l.length * widI l + 7) / 8 := by
  unfold packB headB
  have := (putN_spec (widI l) (moreI l)).2.1
  have ml : (moreI l).length = l.length := by simp [moreI]
  rw [ml] at this
  simp only [List.length_append, List.length_cons, le_len, this]
  omega
def runsLen (rs : List (Nat × Int)) : Nat := (rs.flatMap runB).length
theorem runs_len (l : List Int) : (runsB l).length = 1 + (pvarN l.length).length + runsLen (runsI l) := by
  unfold runsB headB runsLen
  simp only [List.length_append, List.length_cons]
  omega
theorem rli_snoc (l : List Int) (v : Int) : ∀ (b : Int) (n : Nat), runsLen (rli b n l) ≤ runsLen (rli b n (l ++ [v])) ∧ (v = (b :: l).getLast (by simp) → runsLen (rli b n (l ++ [v])) ≤ runsLen (rli b n l) + 1) := by
  induction l with
  | nil =>
    intro b n
    simp only [List.nil_append, rli, List.getLast_singleton]
    by_cases h : v = b
    · rw [if_pos h]
      have h1 : (pvarN n).length ≤ (pvarN (n + 1)).length := pvarN_mono (Nat.le_succ n)
      have h2 := pvarN_succ n
      simp only [runsLen, List.flatMap_cons, List.flatMap_nil, List.append_nil, runB, List.length_append, le_len]
      exact ⟨by omega, fun _ => by omega⟩
    · rw [if_neg h]
      simp only [runsLen, List.flatMap_cons, List.flatMap_nil, List.append_nil, runB, List.length_append, le_len]
      exact ⟨by omega, fun q => absurd q h⟩
  | cons c l ih =>
    intro b n
    simp only [List.cons_append, rli]
    by_cases h : c = b
    · rw [if_pos h, if_pos h]
      obtain ⟨h1, h2⟩ := ih b (n + 1)
      refine ⟨h1, fun q => h2 ?_⟩
      rw [q, List.getLast_cons (by simp)]
      subst h
      rfl
    · rw [if_neg h, if_neg h]
      obtain ⟨h1, h2⟩ := ih c 1
      have e : ∀ (x : Nat × Int) (rs : List (Nat × Int)), runsLen (x :: rs) = (runB x).length + runsLen rs := fun x rs => by simp [runsLen]
      rw [e, e]
      exact ⟨by omega, fun q => by have := h2 (by rw [q, List.getLast_cons (by simp)]); omega⟩
theorem runs_snoc (l : List Int) (v : Int) (hne : l ≠ []) : runsLen (runsI l) ≤ runsLen (runsI (l ++ [v])) ∧ (v = l.getLast hne → runsLen (runsI (l ++ [v])) ≤ runsLen (runsI l) + 1) := by
  cases l with
  | nil => exact absurd rfl hne
  | cons b l => exact rli_snoc l v b 1
theorem foldmin_spec (l : List Int) : ∀ (a : Int), (∀ x ∈ a :: l, l.foldl (fun m x => if x < m then x else m) a ≤ x) ∧ l.foldl (fun m x => if x < m then x else m) a ∈ a :: l := by
  induction l with
  | nil => intro a; simp
  | cons c l ih =>
    intro a
    simp only [List.foldl_cons]
    have hm : ∃ m, (if c < a then c else a) = m ∧ m ≤ a ∧ m ≤ c ∧ (m = a ∨ m = c) := by
      refine ⟨_, rfl, ?_⟩
      by_cases q : c < a
      · rw [if_pos q]; exact ⟨by omega, by omega, .inr rfl⟩
      · rw [if_neg q]; exact ⟨by omega, by omega, .inl rfl⟩
    obtain ⟨m, em, ha, hc, hor⟩ := hm
    rw [em]
    obtain ⟨h1, h2⟩ := ih m
    have h3 := h1 m (by simp)
    refine ⟨fun x hx => ?_, ?_⟩
    · rcases List.mem_cons.1 hx with rfl | hx
      · omega
      · rcases List.mem_cons.1 hx with rfl | hx
        · omega
        · exact h1 x (by simp [hx])
    · rcases List.mem_cons.1 h2 with h2 | h2
      · rw [h2]
        rcases hor with rfl | rfl <;> simp
      · simp [h2]
theorem minI_spec {l : List Int} (hne : l ≠ []) : (∀ x ∈ l, minI l ≤ x) ∧ minI l ∈ l := by
  cases l with
  | nil => exact absurd rfl hne
  | cons a l => exact foldmin_spec l a
theorem toU_sub_eq {a m : Int} (h1 : m ≤ a) (h2 : i64ok a) (h3 : i64ok m) : (toU (a - m) : Int) = a - m := by
  unfold toU i64ok at *; omega
theorem wid_le {l : List Int} (w : Nat) (hok : ∀ x ∈ l, i64ok x) : widI l ≤ w ↔ ∀ x ∈ l, (x - minI l).toNat < 2 ^ w := by
  unfold widI
  rw [Pk.width_le]
  by_cases hne : l = []
  · subst hne; simp [moreI]
  obtain ⟨m1, m2⟩ := minI_spec hne
  have e : ∀ x ∈ l, toU (x - minI l) = (x - minI l).toNat := fun x hx => by
    have := toU_sub_eq (m1 x hx) (hok x hx) (hok _ m2)
    omega
  constructor
  · intro h x hx
    rw [← e x hx]
    exact h _ (List.mem_map.2 ⟨x, hx, rfl⟩)
  · intro h y hy
    obtain ⟨x, hx, rfl⟩ := List.mem_map.1 hy
    rw [e x hx]
    exact h x hx
theorem minI_unique {l : List Int} {m : Int} (h1 : ∀ x ∈ l, m ≤ x) (h2 : m ∈ l) : minI l = m := by
  have hne : l ≠ [] := by rintro rfl; cases h2
  obtain ⟨a1, a2⟩ := minI_spec hne
  have := a1 m h2
  have := h1 _ a2
  omega
theorem wid_same {l m : List Int} (hmem : ∀ x, x ∈ l ↔ x ∈ m) (hne : l ≠ []) (hok : ∀ x ∈ l, i64ok x) : widI l = widI m := by
  obtain ⟨m1, m2⟩ := minI_spec hne
  have em : minI m = minI l := minI_unique (fun x hx => m1 x ((hmem x).2 hx)) ((hmem _).1 m2)
  have hok' : ∀ x ∈ m, i64ok x := fun x hx => hok x ((hmem x).2 hx)
  have key : ∀ w, widI l ≤ w ↔ widI m ≤ w := fun w => by
    rw [wid_le w hok, wid_le w hok', em]
    exact ⟨fun h x hx => h x ((hmem x).2 hx), fun h x hx => h x ((hmem x).1 hx)⟩
  have h1 := (key (widI m)).2 (Nat.le_refl _)
  have h2 := (key (widI l)).1 (Nat.le_refl _)
  omega
theorem wid_more {l : List Int} {v : Int} (hne : l ≠ []) (hok : ∀ x ∈ l, i64ok x) (hv : i64ok v) : widI l ≤ widI (l ++ [v]) := by
  have hok' : ∀ x ∈ l ++ [v], i64ok x := fun x hx => by
    rcases List.mem_append.1 hx with hx | hx
    · exact hok x hx
    · rw [List.mem_singleton] at hx; subst hx; exact hv
  rw [wid_le _ hok]
  intro x hx
  have h1 := (wid_le (widI (l ++ [v])) hok').1 (Nat.le_refl _) x (by simp [hx])
  obtain ⟨m1, m2⟩ := minI_spec hne
  obtain ⟨n1, n2⟩ := minI_spec (l := l ++ [v]) (by simp)
  have := n1 (minI l) (by simp [m2])
  have := m1 x hx
  omega
theorem swap_mem {l : List Int} {i j : Nat} {x y : Int} (hi : l[i]? = some x) (hj : l[j]? = some y) : ∀ z, z ∈ l ↔ z ∈ (l.set i y).set j x := by
  have li := (List.getElem?_eq_some_iff.1 hi).1
  have lj := (List.getElem?_eq_some_iff.1 hj).1
  intro z
  constructor
  · intro hz
    obtain ⟨q, hq⟩ := List.mem_iff_getElem?.1 hz
    rw [List.mem_iff_getElem?]
    by_cases q1 : q = i
    · subst q1
      rw [hi] at hq; cases hq
      exact ⟨j, by rw [List.getElem?_set_self (by simpa using lj)]⟩
    · by_cases q2 : q = j
      · subst q2
        rw [hj] at hq; cases hq
        refine ⟨i, ?_⟩
        rw [List.getElem?_set_ne (fun h => q1 h), List.getElem?_set_self li]
      · exact ⟨q, by rw [List.getElem?_set_ne (Ne.symm q2), List.getElem?_set_ne (Ne.symm q1)]; exact hq⟩
  · intro hz
    rcases List.mem_or_eq_of_mem_set hz with hz | rfl
    · rcases List.mem_or_eq_of_mem_set hz with hz | rfl
      · exact hz
      · exact List.mem_of_getElem? hj
    · exact List.mem_of_getElem? hi
end Go.Proofs.Ytcidbbkefpeahaa.Sh
