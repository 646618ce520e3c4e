/- What is put in any form is got; columns held against each other. -/
import Derived.Test.YtcidbbkefpeahaaSzI2
import Derived.Test.YtcidbbkefpeahaaSzIe
set_option linter.unusedVariables false
set_option linter.unusedSimpArgs false
set_option maxRecDepth 100000
namespace Go.Proofs.Ytcidbbkefpeahaa.Sh
open Go Go.RowKit Go.Proofs.Ev
theorem base_I3 : type_of% (And.intro @ld3 (And.intro @ld2 (And.intro @ld26 (@ld5)))) := And.intro @ld3 (And.intro @ld2 (And.intro @ld26 (@ld5)))
theorem le8 {z : Nat} (hz : z < 18446744073709551616) : ofB (le z 0 8) = z := by
  rw [ofB_le]
  have h8 : (256 : Nat) ^ 8 = 18446744073709551616 := by decide
  simp only [Nat.mul_zero, Nat.pow_zero, Nat.div_one, h8]
  exact Nat.mod_eq_of_lt hz
theorem le8_take (z : Nat) (r : List Nat) : (le z 0 8 ++ r).take 8 = le z 0 8 := List.take_left' (le_len _ _ _)
theorem le8_drop (z : Nat) (r : List Nat) : (le z 0 8 ++ r).drop 8 = r := List.drop_left' (le_len _ _ _)
theorem plain_back : ∀ (l : List Int), (∀ z ∈ l, i64ok z) → plainG l.length (l.flatMap fun z => le (toU z) 0 8) = some l := by
  intro l
  induction l with
  | nil => intro _; rfl
  | cons z l ih =>
    intro h
    rw [List.flatMap_cons, List.length_cons, plainG, if_neg (by simp [le_len]), le8_drop, le8_take, ih fun x hx => h x (by simp [hx]), le8 (toU_lt z), toI_toU (h z (by simp))]
    rfl
def unrun (rs : List (Nat × Int)) : List Int := rs.flatMap fun r => List.replicate r.1 r.2
theorem unrun_rli (l : List Int) : ∀ (b : Int) (n : Nat), unrun (rli b n l) = List.replicate n b ++ l := by
  induction l with
  | nil => intro b n; simp [rli, unrun]
  | cons c l ih =>
    intro b n
    unfold rli
    split
    · rename_i q
      rw [ih, q, List.replicate_succ']
      simp
    · have := ih c 1
      unfold unrun at this ⊢
      rw [List.flatMap_cons, this]
      simp
theorem unrun_runs (l : List Int) : unrun (runsI l) = l := by
  cases l with
  | nil => rfl
  | cons b l => rw [runsI, unrun_rli]; simp
theorem rli_pos (l : List Int) : ∀ (b : Int) (n : Nat), 0 < n → ∀ r ∈ rli b n l, 0 < r.1 := by
  induction l with
  | nil => intro b n hn r hr; simp [rli] at hr; subst hr; exact hn
  | cons c l ih =>
    intro b n hn r hr
    unfold rli at hr
    split at hr
    · exact ih b (n + 1) (by omega) r hr
    · rcases List.mem_cons.1 hr with rfl | hr
      · exact hn
      · exact ih c 1 (by omega) r hr
theorem runsI_pos (l : List Int) : ∀ r ∈ runsI l, 0 < r.1 := by
  cases l with
  | nil => intro r hr; cases hr
  | cons b l => exact rli_pos l b 1 (by omega)
theorem runs_back : ∀ (rs : List (Nat × Int)) (f : Nat), (unrun rs).length ≤ f → (unrun rs).length ≤ 100000 → (∀ r ∈ rs, 0 < r.1) → (∀ z ∈ unrun rs, i64ok z) → runsG f (unrun rs).length (rs.flatMap runB) = some (unrun rs) := by
  intro rs
  induction rs with
  | nil =>
    intro f _ _ _ _
    cases f <;> rfl
  | cons r rs ih =>
    intro f hf hl hp hz
    have hr := hp r (by simp)
    have hu : unrun (r :: rs) = List.replicate r.1 r.2 ++ unrun rs := rfl
    have hlen : (unrun (r :: rs)).length = r.1 + (unrun rs).length := by rw [hu]; simp
    obtain ⟨f, rfl⟩ : ∃ q, f = q + 1 := ⟨f - 1, by omega⟩
    have hzr : i64ok r.2 := hz r.2 (by rw [hu]; simp; left; omega)
    have hd : dec 0 0 (List.flatMap runB (r :: rs)) = some (r.1, le (toU r.2) 0 8 ++ rs.flatMap runB) := by
      have := dec_pvar (le (toU r.2) 0 8 ++ rs.flatMap runB) r.1 (i := 0) (acc := 0) (.inl rfl) (by simp; omega)
      rw [List.flatMap_cons, runB, List.append_assoc, this]
      simp
    rw [runsG, if_neg (by omega), hd]
    simp only
    rw [if_neg (by simp [le_len]; omega), le8_drop, le8_take, show (unrun (r :: rs)).length - r.1 = (unrun rs).length by omega,
      ih f (by omega) (by omega) (fun x hx => hp x (by simp [hx])) (fun z hz' => hz z (by rw [hu]; simp [hz'])), le8 (toU_lt r.2), toI_toU hzr]
    rfl
theorem toI_more {z m : Int} (hz : i64ok z) (hm : i64ok m) : toI ((toU m + toU (z - m)) % 18446744073709551616) = z := by
  have : (toU m + toU (z - m)) % 18446744073709551616 = toU z := by
    unfold toU
    omega
  rw [this, toI_toU hz]
theorem pack_back (l : List Int) (hl : l.length ≤ 4096) (hok : ∀ z ∈ l, i64ok z) (hm : i64ok (minI l)) : packG l.length (le (toU (minI l)) 0 8 ++ (widI l :: putN (widI l) (moreI l))) = some l := by
  have hw := widI_le l
  have ml : (moreI l).length = l.length := by simp [moreI]
  obtain ⟨t1, t2⟩ := Pk.there (l := moreI l) (W := widI l) (by omega) hw (Nat.le_refl _)
  rw [ml] at t1 t2
  have d9 : (le (toU (minI l)) 0 8 ++ (widI l :: putN (widI l) (moreI l))).drop 9 = putN (widI l) (moreI l) := by
    rw [show (9 : Nat) = 8 + 1 by rfl, ← List.drop_drop, le8_drop]
    rfl
  have o1 : ofB ((widI l :: putN (widI l) (moreI l)).take 1) = widI l := by simp [ofB]
  unfold packG
  rw [if_neg (by simp [le_len]; omega), d9, le8_drop, o1, if_neg (fun h => h t1), t2, le8_take, le8 (toU_lt _)]
  congr 1
  unfold moreI
  rw [List.map_map]
  conv => rhs; rw [← List.map_id l]
  exact List.map_congr_left fun z hz => toI_more (hok z hz) hm
theorem get_form {kd : Nat} (h3 : kd = 1 ∨ kd = 2 ∨ kd = 3) (l : List Int) (hl : l.length ≤ 4096) (hok : ∀ z ∈ l, i64ok z) (hm : i64ok (minI l)) : getI (formB kd l) = some l := by
  have key : ∀ body, formB kd l = headB kd l.length ++ body → kindG kd l.length body = some l → getI (formB kd l) = some l := by
    intro body e hk
    have hd := dec_pvar body l.length (i := 0) (acc := 0) (.inl rfl) (by simp; omega)
    simp only [Nat.mul_zero, Nat.pow_zero, Nat.mul_one, Nat.zero_add] at hd
    rw [e]
    unfold getI headB
    simp only [List.cons_append]
    rw [hd]
    simp only
    rw [if_neg (by omega), if_pos h3, hk]
    simp only
    rw [e]
    unfold headB
    rw [List.cons_append, if_pos rfl]
  rcases h3 with rfl | rfl | rfl
  · exact key _ rfl (plain_back l hok)
  · refine key _ rfl ?_
    have := runs_back (runsI l) l.length (by rw [unrun_runs]; exact Nat.le_refl _) (by rw [unrun_runs]; omega) (runsI_pos l) (by rw [unrun_runs]; exact hok)
    rw [unrun_runs] at this
    exact this
  · refine key (le (toU (minI l)) 0 8 ++ (widI l :: putN (widI l) (moreI l))) (by unfold formB packB; simp) ?_
    exact pack_back l hl hok hm
theorem putI_form (l : List Int) : ∃ kd, (kd = 1 ∨ kd = 2 ∨ kd = 3) ∧ putI l = formB kd l := by
  unfold putI
  by_cases q1 : (runsB l).length < (plainB l).length
  · by_cases q2 : (packB l).length < (runsB l).length
    · exact ⟨3, by omega, by simp [q1, q2, formB]⟩
    · exact ⟨2, by omega, by simp [q1, q2, formB]⟩
  · by_cases q2 : (packB l).length < (plainB l).length
    · exact ⟨3, by omega, by simp [q1, q2, formB]⟩
    · exact ⟨1, by omega, by simp [q1, q2, formB]⟩
theorem putI_len (l : List Int) : (putI l).length = min (plainB l).length (min (runsB l).length (packB l).length) := by
  unfold putI
  by_cases q1 : (runsB l).length < (plainB l).length
  · by_cases q2 : (packB l).length < (runsB l).length
    · simp only [if_pos q1, if_pos q2]; omega
    · simp only [if_pos q1, if_neg q2]; omega
  · by_cases q2 : (packB l).length < (plainB l).length
    · simp only [if_neg q1, if_pos q2]; omega
    · simp only [if_neg q1, if_neg q2]; omega
theorem minI_ok {l : List Int} (h : ∀ z ∈ l, i64ok z) : i64ok (minI l) := by
  by_cases q : l = []
  · subst q
    have e : minI [] = 0 := rfl
    rw [e]; unfold i64ok; omega
  · exact h _ (minI_spec q).2
theorem getI_some {b : List Nat} {l : List Int} (h : getI b = some l) : b = plainB l ∨ b = runsB l ∨ b = packB l := by
  unfold getI at h
  split at h
  · cases h
  · split at h
    · cases h
    · split at h
      · cases h
      · split at h
        · rename_i q
          split at h
          · cases h
          · split at h
            · rename_i q2
              cases h
              rcases q with rfl | rfl | rfl
              · exact .inl q2.symm
              · exact .inr (.inl q2.symm)
              · exact .inr (.inr q2.symm)
            · cases h
        · cases h
theorem f17_loop {β : Type} {k : Nat} {Q : β → Prop} {h : AH} {v w : Value} {l m : List Int} (S : Ints h v l) (T : Ints h w m) (hlm : l.length = m.length) (hl : l.length ≤ 2 ^ 40) {ke0 : Value → Value → Value → Value → AH → Option β} {kr : Value → AH → Option β} (n : Nat) :
    ∀ {i j : Nat}, i + n = l.length → n < j → (l.drop i = m.drop i → ∀ y y', Tl (ke0 v w y y' h) Q) → (l.drop i ≠ m.drop i → Tl (kr (.bool false) h) Q) → Tl (F17_lrlrr (eInv env k) k j v w (.int .i64 i) h ke0 kr) Q := by
  have hlen : ∀ h', pLen Try.prog #[25] v h' = some (.int .i64 l.length) := fun h' => Sl1.len S u25
  induction n with
  | zero =>
    intro i j hi hj hk hr
    obtain ⟨j, rfl⟩ : ∃ q, j = q + 1 := ⟨j - 1, by omega⟩
    simp only [F17_lrlrr]
    repeat (first | (with_reducible apply Tl.val; focus (simp (disch := omega) only [coreA, Int.reduceBEq, base_I3, hlen] <;> with_reducible rfl)) | with_reducible refine Tl.brT ?_ | with_reducible refine Tl.brF ?_ | with_reducible refine Tl.gd_on ?_ | with_reducible refine Tl.gd3_on ?_ | ((first | with_reducible apply Tl.brC | with_reducible apply Tl.gdC | with_reducible apply Tl.gd3C); focus (simp (disch := omega) only [coreA, Int.reduceBEq, base_I3, hlen] <;> with_reducible rfl)))
    exact hk (by rw [List.drop_eq_nil_of_le (by omega), List.drop_eq_nil_of_le (by omega)]) _ _
  | succ n ih =>
    intro i j hi hj hk hr
    obtain ⟨j, rfl⟩ : ∃ q, j = q + 1 := ⟨j - 1, by omega⟩
    obtain ⟨x, hx⟩ : ∃ x, l[i]? = some x := ⟨_, List.getElem?_eq_getElem (by omega)⟩
    obtain ⟨y, hy⟩ : ∃ x, m[i]? = some x := ⟨_, List.getElem?_eq_getElem (by omega)⟩
    obtain ⟨b, o, hp, hc⟩ := Sl1.at_ S (t := 25) (k := .i64) hx u25 sz2
    obtain ⟨b2, o2, hp2, hc2⟩ := Sl1.at_ T (t := 25) (k := .i64) hy u25 sz2
    have hc := hc h (Grow.refl _)
    have hc2 := hc2 h (Grow.refl _)
    rw [dropc hx, dropc hy] at hk hr
    have e : (i : Int) + 1 = ((i + 1 : Nat) : Int) := by omega
    simp only [F17_lrlrr]
    by_cases q : x = y
    · repeat (first | (with_reducible apply Tl.val; focus (simp (disch := omega) only [coreA, Int.reduceBEq, base_I3, hlen, hp, hc, hp2, hc2, i6v] <;> with_reducible rfl)) | with_reducible refine Tl.brT ?_ | with_reducible refine Tl.brF ?_ | with_reducible refine Tl.gd_on ?_ | with_reducible refine Tl.gd3_on ?_ | ((first | with_reducible apply Tl.brC | with_reducible apply Tl.gdC | with_reducible apply Tl.gd3C); focus (simp (disch := omega) only [coreA, Int.reduceBEq, base_I3, hlen, hp, hc, hp2, hc2, i6v] <;> with_reducible rfl)))
      rw [e]
      subst q
      exact ih (by omega) (by omega) (fun q => hk (by rw [q])) (fun q => hr (by simpa using q))
    · repeat (first | (with_reducible apply Tl.val; focus (simp (disch := omega) only [coreA, Int.reduceBEq, base_I3, hlen, hp, hc, hp2, hc2, i6v] <;> with_reducible rfl)) | with_reducible refine Tl.brT ?_ | with_reducible refine Tl.brF ?_ | with_reducible refine Tl.gd_on ?_ | with_reducible refine Tl.gd3_on ?_ | ((first | with_reducible apply Tl.brC | with_reducible apply Tl.gdC | with_reducible apply Tl.gd3C); focus (simp (disch := omega) only [coreA, Int.reduceBEq, base_I3, hlen, hp, hc, hp2, hc2, i6v] <;> with_reducible rfl)))
      exact hr (by simp [q])
theorem f17c {k : Nat} {h : AH} {v w : Value} {l m : List Int} (S : Ints h v l) (T : Ints h w m) (hl : l.length ≤ 2 ^ 40) (hm : m.length ≤ 2 ^ 40) (hk : l.length < k) : eInv env (k + 1) (.func 17) #[] #[v, w] h = some (.bool (decide (l = m)), h) := by
  have T : Tl (F17 (eInv env k) k v w h) fun r => r = (.bool (decide (l = m)), h) := by
    have hlen : ∀ h', pLen Try.prog #[25] v h' = some (.int .i64 l.length) := fun h' => Sl1.len S u25
    have hlen2 : ∀ h', pLen Try.prog #[25] w h' = some (.int .i64 m.length) := fun h' => Sl1.len T u25
    unfold F17
    by_cases e : l.length = m.length
    · repeat (first | (with_reducible apply Tl.val; focus (simp (disch := omega) only [coreA, Int.reduceBEq, base_I3, hlen, hlen2] <;> with_reducible rfl)) | with_reducible refine Tl.brT ?_ | with_reducible refine Tl.brF ?_ | with_reducible refine Tl.gd_on ?_ | with_reducible refine Tl.gd3_on ?_ | ((first | with_reducible apply Tl.brC | with_reducible apply Tl.gdC | with_reducible apply Tl.gd3C); focus (simp (disch := omega) only [coreA, Int.reduceBEq, base_I3, hlen, hlen2] <;> with_reducible rfl)))
      refine f17_loop S T e hl l.length (i := 0) (by omega) (by omega) (fun q y y' => ⟨_, rfl, ?_⟩) (fun q => ⟨_, rfl, ?_⟩)
      · have : l = m := by simpa using q
        simp [this]
      · have : l ≠ m := by simpa using q
        simp [this]
    · repeat (first | (with_reducible apply Tl.val; focus (simp (disch := omega) only [coreA, Int.reduceBEq, base_I3, hlen, hlen2] <;> with_reducible rfl)) | with_reducible refine Tl.brT ?_ | with_reducible refine Tl.brF ?_ | with_reducible refine Tl.gd_on ?_ | with_reducible refine Tl.gd3_on ?_ | ((first | with_reducible apply Tl.brC | with_reducible apply Tl.gdC | with_reducible apply Tl.gd3C); focus (simp (disch := omega) only [coreA, Int.reduceBEq, base_I3, hlen, hlen2] <;> with_reducible rfl)))
      have : l ≠ m := fun q => e (by rw [q])
      exact ⟨_, rfl, by simp [this]⟩
  obtain ⟨r, h1, h2⟩ := T
  rw [F17_call, h1, h2]
end Go.Proofs.Ytcidbbkefpeahaa.Sh
