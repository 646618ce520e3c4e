/- 'IntsCalls' comes to true. -/
import Derived.Test.YtcidbbkefpeahaaSzI3
import Derived.Test.YtcidbbkefpeahaaSzRf
set_option linter.unusedVariables false
set_option linter.unusedSimpArgs false
set_option maxRecDepth 100000
namespace Go.Proofs.Ytcidbbkefpeahaa.Sh
open Go Go.RowKit Go.Proofs.Ev
theorem base_I5 : type_of% (And.intro @ld3 (And.intro @ld2 (And.intro @ld26 (And.intro @ld5 (And.intro @ex2_0 (@ex2_1)))))) := And.intro @ld3 (And.intro @ld2 (And.intro @ld26 (And.intro @ld5 (And.intro @ex2_0 (@ex2_1)))))
theorem f23_loop {β : Type} {k : Nat} {Q : β → Prop} {h : AH} {v w : Value} {l m : List Nat} (S : Bytes h v l) (T : Bytes h w m) (hlm : l.length = m.length) (hl : l.length ≤ 2 ^ 40) {ke0 : Value → Value → Value → Value → AH → Option β} {kr : Value → AH → Option β} (n : Nat) :
    ∀ {i j : Nat}, i + n = l.length → n < j → (l.drop i = m.drop i → ∀ y y', Tl (ke0 v w y y' h) Q) → (l.drop i ≠ m.drop i → Tl (kr (.bool false) h) Q) → Tl (F23_lrlrr (eInv env k) k j v w (.int .i64 i) h ke0 kr) Q := by
  have hlen : ∀ h', pLen Try.prog #[26] v h' = some (.int .i64 l.length) := fun h' => S.len
  induction n with
  | zero =>
    intro i j hi hj hk hr
    obtain ⟨j, rfl⟩ : ∃ q, j = q + 1 := ⟨j - 1, by omega⟩
    simp only [F23_lrlrr]
    repeat (first | (with_reducible apply Tl.val; focus (simp (disch := omega) only [coreA, Int.reduceBEq, base_I5, hlen] <;> with_reducible rfl)) | (with_reducible first | refine Tl.brT ?_ | refine Tl.brF ?_ | refine Tl.gd_on ?_ | refine Tl.gd3_on ?_) | ((with_reducible first | apply Tl.brC | apply Tl.gdC | apply Tl.gd3C); focus (simp (disch := omega) only [coreA, Int.reduceBEq, base_I5, hlen] <;> with_reducible rfl)))
    exact hk (by rw [List.drop_eq_nil_of_le (by omega), List.drop_eq_nil_of_le (by omega)]) _ _
  | succ n ih =>
    intro i j hi hj hk hr
    obtain ⟨j, rfl⟩ : ∃ q, j = q + 1 := ⟨j - 1, by omega⟩
    obtain ⟨x, hx⟩ : ∃ x, l[i]? = some x := ⟨_, List.getElem?_eq_getElem (by omega)⟩
    obtain ⟨y, hy⟩ : ∃ x, m[i]? = some x := ⟨_, List.getElem?_eq_getElem (by omega)⟩
    obtain ⟨b, o, hp, hc⟩ := S.at_ hx
    obtain ⟨b2, o2, hp2, hc2⟩ := T.at_ hy
    have hc := hc h (Grow.refl _)
    have hc2 := hc2 h (Grow.refl _)
    rw [dropc hx, dropc hy] at hk hr
    have e : (i : Int) + 1 = ((i + 1 : Nat) : Int) := by omega
    simp only [F23_lrlrr]
    by_cases q : x = y
    · repeat (first | (with_reducible apply Tl.val; focus (simp (disch := omega) only [coreA, Int.reduceBEq, base_I5, hlen, hp, hc, hp2, hc2] <;> with_reducible rfl)) | (with_reducible first | refine Tl.brT ?_ | refine Tl.brF ?_ | refine Tl.gd_on ?_ | refine Tl.gd3_on ?_) | ((with_reducible first | apply Tl.brC | apply Tl.gdC | apply Tl.gd3C); focus (simp (disch := omega) only [coreA, Int.reduceBEq, base_I5, hlen, hp, hc, hp2, hc2] <;> with_reducible rfl)))
      rw [e]
      subst q
      exact ih (by omega) (by omega) (fun q => hk (by rw [q])) (fun q => hr (by simpa using q))
    · repeat (first | (with_reducible apply Tl.val; focus (simp (disch := omega) only [coreA, Int.reduceBEq, base_I5, hlen, hp, hc, hp2, hc2] <;> with_reducible rfl)) | (with_reducible first | refine Tl.brT ?_ | refine Tl.brF ?_ | refine Tl.gd_on ?_ | refine Tl.gd3_on ?_) | ((with_reducible first | apply Tl.brC | apply Tl.gdC | apply Tl.gd3C); focus (simp (disch := omega) only [coreA, Int.reduceBEq, base_I5, hlen, hp, hc, hp2, hc2] <;> with_reducible rfl)))
      exact hr (by simp [q])
theorem f23c {k : Nat} {h : AH} {v w : Value} {l m : List Nat} (S : Bytes h v l) (T : Bytes h w m) (hl : l.length ≤ 2 ^ 40) (hm : m.length ≤ 2 ^ 40) (hk : l.length < k) : eInv env (k + 1) (.func 23) #[] #[v, w] h = some (.bool (decide (l = m)), h) := by
  have T : Tl (F23 (eInv env k) k v w h) fun r => r = (.bool (decide (l = m)), h) := by
    have hlen : ∀ h', pLen Try.prog #[26] v h' = some (.int .i64 l.length) := fun h' => S.len
    have hlen2 : ∀ h', pLen Try.prog #[26] w h' = some (.int .i64 m.length) := fun h' => T.len
    unfold F23
    by_cases e : l.length = m.length
    · repeat (first | (with_reducible apply Tl.val; focus (simp (disch := omega) only [coreA, Int.reduceBEq, base_I5, hlen, hlen2] <;> with_reducible rfl)) | (with_reducible first | refine Tl.brT ?_ | refine Tl.brF ?_ | refine Tl.gd_on ?_ | refine Tl.gd3_on ?_) | ((with_reducible first | apply Tl.brC | apply Tl.gdC | apply Tl.gd3C); focus (simp (disch := omega) only [coreA, Int.reduceBEq, base_I5, hlen, hlen2] <;> with_reducible rfl)))
      refine f23_loop S T e hl l.length (i := 0) (by omega) (by omega) (fun q y y' => ⟨_, rfl, ?_⟩) (fun q => ⟨_, rfl, ?_⟩)
      · have : l = m := by simpa using q
        simp [this]
      · have : l ≠ m := by simpa using q
        simp [this]
    · repeat (first | (with_reducible apply Tl.val; focus (simp (disch := omega) only [coreA, Int.reduceBEq, base_I5, hlen, hlen2] <;> with_reducible rfl)) | (with_reducible first | refine Tl.brT ?_ | refine Tl.brF ?_ | refine Tl.gd_on ?_ | refine Tl.gd3_on ?_) | ((with_reducible first | apply Tl.brC | apply Tl.gdC | apply Tl.gd3C); focus (simp (disch := omega) only [coreA, Int.reduceBEq, base_I5, hlen, hlen2] <;> with_reducible rfl)))
      have : l ≠ m := fun q => e (by rw [q])
      exact ⟨_, rfl, by simp [this]⟩
  obtain ⟨r, h1, h2⟩ := T
  rw [F23_call, h1, h2]
/-- A result of bytes: they are there, and stay. -/
def Out (h : AH) (e : Int) (l : List Nat) (r : Value × AH) : Prop := ∃ o, r.1 = .tuple #[o, .int .i64 e] ∧ Grow h r.2 ∧ Bytes r.2 o l
theorem Out.of {h : AH} {l : List Nat} {r : Value × AH} (x : ∃ o, r.1 = .tuple #[o, .int .i64 0] ∧ Grow h r.2 ∧ OwnB Try.prog h.n r.2 o 1 (u8rows l)) : Out h 0 l r := by
  obtain ⟨o, e, g, X⟩ := x
  exact ⟨o, e, g, X.slV⟩
theorem Out.nil {h : AH} {o : Option (Value × AH)} (e : o = some (.tuple #[.slice none 0 0, .int .i64 3], h)) : Tl o (Out h 3 []) := ⟨_, e, _, rfl, Grow.refl _, .inl ⟨rfl, rfl⟩⟩
theorem putI_len5 {l : List Int} (hl : l.length ≤ 200) : (plainB l).length ≤ 4990 ∧ (runsB l).length ≤ 4990 ∧ (packB l).length ≤ 4990 ∧ (putI l).length ≤ 4990 := by
  have w64 := widI_le l
  have pl10 := pvarN_le10 (n := l.length) (by omega)
  have n1 : (plainB l).length ≤ 4990 := by rw [plain_len]; omega
  have n2 : (runsB l).length ≤ 4990 := by have := runs_small l (by omega); omega
  have n3 : (packB l).length ≤ 4990 := by
    rw [pack_len]
    have : l.length * widI l ≤ 200 * 64 := Nat.mul_le_mul hl w64
    omega
  have := putI_len l
  exact ⟨n1, n2, n3, by omega⟩
/-- What is put, either way: the same bytes, the same error. -/
theorem eight {k : Nat} {l : List Int} (q : l.length ≤ 200 ∨ ¬ l.length ≤ 4096) : ∃ (e : Int) (b1 b2 b3 b4 : List Nat), b1.length ≤ 4990 ∧ b2.length ≤ 4990 ∧ b3.length ≤ 4990 ∧ b4.length ≤ 4990 ∧ ∀ {h : AH} {v : Value}, Ints h v l →
    Tl (eInv env (k + 20000) (.func 13) #[] #[v] h) (Out h e b1) ∧ Tl (eInv env (k + 20000) (.func 18) #[] #[v] h) (Out h e b1) ∧
    Tl (eInv env (k + 20000) (.func 14) #[] #[v] h) (Out h e b2) ∧ Tl (eInv env (k + 20000) (.func 19) #[] #[v] h) (Out h e b2) ∧
    Tl (eInv env (k + 20000) (.func 11) #[] #[v] h) (Out h e b3) ∧ Tl (eInv env (k + 20000) (.func 20) #[] #[v] h) (Out h e b3) ∧
    Tl (eInv env (k + 20000) (.func 10) #[] #[v] h) (Out h e b4) ∧ Tl (eInv env (k + 20000) (.func 21) #[] #[v] h) (Out h e b4) := by
  rcases q with q | q
  · obtain ⟨n1, n2, n3, n4⟩ := putI_len5 q
    refine ⟨0, plainB l, runsB l, packB l, putI l, n1, n2, n3, n4, fun {h v} A => ⟨?_, ?_, ?_, ?_, ?_, ?_, ?_, ?_⟩⟩
    · exact (f13c (k := k + 19970) A (by omega) (by omega)).mono fun r x => Out.of x
    · exact (f18c (k := k + 19970) A (by omega) (by omega)).mono fun r x => Out.of x
    · exact (f14c (k := k + 19970) A (by omega) (by omega)).mono fun r x => Out.of x
    · exact (f19c (k := k + 19970) A (by omega) (by omega)).mono fun r x => Out.of x
    · exact (f11c (k := k + 19500) A (by omega) (by omega)).mono fun r x => Out.of x
    · exact (f20c (k := k + 19500) A (by omega) (by omega)).mono fun r x => Out.of x
    · exact f10c (k := k + 19499) A (by omega) (by omega)
    · exact f21c (k := k + 19499) A (by omega) (by omega)
  · refine ⟨3, [], [], [], [], by simp, by simp, by simp, by simp, fun {h v} A => ⟨?_, ?_, ?_, ?_, ?_, ?_, ?_, ?_⟩⟩
    · exact Out.nil (f13n (k := k + 19999) A q)
    · exact Out.nil (f18n (k := k + 19999) A q)
    · exact Out.nil (f14n (k := k + 19999) A q)
    · exact Out.nil (f19n (k := k + 19999) A q)
    · exact Out.nil (f11n (k := k + 19999) A q)
    · exact Out.nil (f20n (k := k + 19999) A q)
    · exact (f10n (k := k + 19990) A q).mono fun r ⟨e, g⟩ => ⟨_, e, g, .inl ⟨rfl, rfl⟩⟩
    · exact Out.nil (f21n (k := k + 19998) A q)
/-- What is got, either way. -/
theorem two {k : Nat} {b : List Nat} (hb : ∀ x ∈ b, x < 256) (hl : b.length ≤ 200) : ∃ (e : Int) (m : List Int), m.length ≤ 4096 ∧ ∀ {h : AH} {v : Value}, Bytes h v b →
    (Tl (eInv env (k + 20000) (.func 15) #[] #[v] h) fun r => ∃ o, r.1 = .tuple #[o, .int .i64 e] ∧ Grow h r.2 ∧ Ints r.2 o m) ∧
    (Tl (eInv env (k + 20000) (.func 22) #[] #[v] h) fun r => ∃ o, r.1 = .tuple #[o, .int .i64 e] ∧ Grow h r.2 ∧ Ints r.2 o m) ∧
    Tl (eInv env (k + 20000) (.func 16) #[] #[v] h) fun r => r.1 = .tuple #[.int .i64 (m.length : Nat), .int .i64 e] ∧ Grow h r.2 := by
  have hcn : ∀ {h : AH} {v : Value}, Bytes h v b → _ := fun {h v} B => f16c (k := k + 12999) B hb (by omega)
  cases hg : getI b with
  | none =>
    refine ⟨4, [], by simp, fun {h v} B => ⟨?_, ?_, ?_⟩⟩
    · refine (f15c (k := k + 13000) B hb (by omega)).mono ?_
      rintro r (⟨l, o, hg2, hl, er, g, X⟩ | ⟨_, er, g⟩)
      · rw [hg] at hg2; cases hg2
      · exact ⟨_, er, g, .inl ⟨rfl, rfl⟩⟩
    · refine (f22c (k := k + 7999) B hb (by omega)).mono ?_
      rintro r (⟨l, o, hg2, hl, er, g, X⟩ | ⟨_, er, g⟩)
      · rw [hg] at hg2; cases hg2
      · exact ⟨_, er, g, .inl ⟨rfl, rfl⟩⟩
    · have := hcn B
      rw [hg] at this
      exact this
  | some m =>
    have hm : m.length ≤ 4096 := by
      unfold getI at hg
      split at hg
      · cases hg
      · split at hg
        · cases hg
        · split at hg
          · cases hg
          · split at hg
            · split at hg
              · cases hg
              · rename_i hk
                split at hg
                · cases hg
                  have := kindG_len hk
                  omega
                · cases hg
            · cases hg
    refine ⟨0, m, hm, fun {h v} B => ⟨?_, ?_, ?_⟩⟩
    · refine (f15c (k := k + 13000) B hb (by omega)).mono ?_
      rintro r (⟨l, o, hg2, hl, er, g, X⟩ | ⟨hg2, er, g⟩)
      · rw [hg] at hg2; cases hg2
        exact ⟨o, er, g, X.slV⟩
      · rw [hg] at hg2; cases hg2
    · refine (f22c (k := k + 7999) B hb (by omega)).mono ?_
      rintro r (⟨l, o, hg2, hl, er, g, X⟩ | ⟨hg2, er, g⟩)
      · rw [hg] at hg2; cases hg2
        exact ⟨o, er, g, X.slV⟩
      · rw [hg] at hg2; cases hg2
    · have := hcn B
      rw [hg] at this
      exact this
theorem f6 {k : Nat} {h : AH} {v w : Value} {l : List Int} {b : List Nat} (A : Ints h v l) (B : Bytes h w b) (hb : ∀ x ∈ b, x < 256) :
    Tl (F6 (eInv env (k + 20000)) (k + 20000) v w h) fun r => r.1 = .bool true := by
  unfold F6
  have hv : ∀ h', pLen Try.prog #[25] v h' = some (.int .i64 l.length) := fun h' => Sl1.len A u25
  have hw : ∀ h', pLen Try.prog #[26] w h' = some (.int .i64 b.length) := fun h' => B.len
  refine Tl.call' (Stt.init h : Stt Try.prog h.n h h [] []) (lives_call (k := k + 19400) (Stt.init h : Stt Try.prog h.n h h [] [])) fun h0 S0 _ => ?_
  by_cases q2 : b.length ≤ 200
  · by_cases q : l.length ≤ 200 ∨ ¬ l.length ≤ 4096
    · obtain ⟨e, b1, b2, b3, b4, n1, n2, n3, n4, E⟩ := eight (k := k) q
      obtain ⟨d, m, hm, G⟩ := two (k := k) hb q2
      rcases q with q1 | q1
      all_goals
        repeat (first | (with_reducible apply Tl.val; focus (simp (disch := omega) only [coreA, Int.reduceBEq, base_I5, hv, hw] <;> with_reducible rfl)) | (with_reducible first | refine Tl.brT ?_ | refine Tl.brF ?_ | refine Tl.gd_on ?_ | refine Tl.gd3_on ?_) | ((with_reducible first | apply Tl.brC | apply Tl.gdC | apply Tl.gd3C); focus (simp (disch := omega) only [coreA, Int.reduceBEq, base_I5, hv, hw] <;> with_reducible rfl)))
        refine Tl.bind (E (Sl1.grow A S0.grow)).1 ?_
        rintro ⟨r, h1⟩ ⟨p1, er, g, B1⟩
        simp only at er g B1
        subst er
        have S1 := S0.call g
        repeat (first | (with_reducible apply Tl.val; focus (simp (disch := omega) only [coreA, Int.reduceBEq, base_I5] <;> with_reducible rfl)) | (with_reducible first | refine Tl.brT ?_ | refine Tl.brF ?_ | refine Tl.gd_on ?_ | refine Tl.gd3_on ?_) | ((with_reducible first | apply Tl.brC | apply Tl.gdC | apply Tl.gd3C); focus (simp (disch := omega) only [coreA, Int.reduceBEq, base_I5] <;> with_reducible rfl)))
        refine Tl.bind (E (Sl1.grow A S1.grow)).2.1 ?_
        rintro ⟨r, h2⟩ ⟨p2, er, g, B2⟩
        simp only at er g B2
        subst er
        have S2 := S1.call g
        have B1 := B1.grow g
        repeat (first | (with_reducible apply Tl.val; focus (simp (disch := omega) only [coreA, Int.reduceBEq, base_I5] <;> with_reducible rfl)) | (with_reducible first | refine Tl.brT ?_ | refine Tl.brF ?_ | refine Tl.gd_on ?_ | refine Tl.gd3_on ?_) | ((with_reducible first | apply Tl.brC | apply Tl.gdC | apply Tl.gd3C); focus (simp (disch := omega) only [coreA, Int.reduceBEq, base_I5] <;> with_reducible rfl)))
        refine Tl.bind (E (Sl1.grow A S2.grow)).2.2.1 ?_
        rintro ⟨r, h3⟩ ⟨p3, er, g, B3⟩
        simp only at er g B3
        subst er
        have S3 := S2.call g
        have B1 := B1.grow g
        have B2 := B2.grow g
        repeat (first | (with_reducible apply Tl.val; focus (simp (disch := omega) only [coreA, Int.reduceBEq, base_I5] <;> with_reducible rfl)) | (with_reducible first | refine Tl.brT ?_ | refine Tl.brF ?_ | refine Tl.gd_on ?_ | refine Tl.gd3_on ?_) | ((with_reducible first | apply Tl.brC | apply Tl.gdC | apply Tl.gd3C); focus (simp (disch := omega) only [coreA, Int.reduceBEq, base_I5] <;> with_reducible rfl)))
        refine Tl.bind (E (Sl1.grow A S3.grow)).2.2.2.1 ?_
        rintro ⟨r, h4⟩ ⟨p4, er, g, B4⟩
        simp only at er g B4
        subst er
        have S4 := S3.call g
        have B1 := B1.grow g
        have B2 := B2.grow g
        have B3 := B3.grow g
        repeat (first | (with_reducible apply Tl.val; focus (simp (disch := omega) only [coreA, Int.reduceBEq, base_I5] <;> with_reducible rfl)) | (with_reducible first | refine Tl.brT ?_ | refine Tl.brF ?_ | refine Tl.gd_on ?_ | refine Tl.gd3_on ?_) | ((with_reducible first | apply Tl.brC | apply Tl.gdC | apply Tl.gd3C); focus (simp (disch := omega) only [coreA, Int.reduceBEq, base_I5] <;> with_reducible rfl)))
        refine Tl.bind (E (Sl1.grow A S4.grow)).2.2.2.2.1 ?_
        rintro ⟨r, h5⟩ ⟨p5, er, g, B5⟩
        simp only at er g B5
        subst er
        have S5 := S4.call g
        have B1 := B1.grow g
        have B2 := B2.grow g
        have B3 := B3.grow g
        have B4 := B4.grow g
        repeat (first | (with_reducible apply Tl.val; focus (simp (disch := omega) only [coreA, Int.reduceBEq, base_I5] <;> with_reducible rfl)) | (with_reducible first | refine Tl.brT ?_ | refine Tl.brF ?_ | refine Tl.gd_on ?_ | refine Tl.gd3_on ?_) | ((with_reducible first | apply Tl.brC | apply Tl.gdC | apply Tl.gd3C); focus (simp (disch := omega) only [coreA, Int.reduceBEq, base_I5] <;> with_reducible rfl)))
        refine Tl.bind (E (Sl1.grow A S5.grow)).2.2.2.2.2.1 ?_
        rintro ⟨r, h6⟩ ⟨p6, er, g, B6⟩
        simp only at er g B6
        subst er
        have S6 := S5.call g
        have B1 := B1.grow g
        have B2 := B2.grow g
        have B3 := B3.grow g
        have B4 := B4.grow g
        have B5 := B5.grow g
        repeat (first | (with_reducible apply Tl.val; focus (simp (disch := omega) only [coreA, Int.reduceBEq, base_I5] <;> with_reducible rfl)) | (with_reducible first | refine Tl.brT ?_ | refine Tl.brF ?_ | refine Tl.gd_on ?_ | refine Tl.gd3_on ?_) | ((with_reducible first | apply Tl.brC | apply Tl.gdC | apply Tl.gd3C); focus (simp (disch := omega) only [coreA, Int.reduceBEq, base_I5] <;> with_reducible rfl)))
        refine Tl.bind (E (Sl1.grow A S6.grow)).2.2.2.2.2.2.1 ?_
        rintro ⟨r, h7⟩ ⟨p7, er, g, B7⟩
        simp only at er g B7
        subst er
        have S7 := S6.call g
        have B1 := B1.grow g
        have B2 := B2.grow g
        have B3 := B3.grow g
        have B4 := B4.grow g
        have B5 := B5.grow g
        have B6 := B6.grow g
        repeat (first | (with_reducible apply Tl.val; focus (simp (disch := omega) only [coreA, Int.reduceBEq, base_I5] <;> with_reducible rfl)) | (with_reducible first | refine Tl.brT ?_ | refine Tl.brF ?_ | refine Tl.gd_on ?_ | refine Tl.gd3_on ?_) | ((with_reducible first | apply Tl.brC | apply Tl.gdC | apply Tl.gd3C); focus (simp (disch := omega) only [coreA, Int.reduceBEq, base_I5] <;> with_reducible rfl)))
        refine Tl.bind (E (Sl1.grow A S7.grow)).2.2.2.2.2.2.2 ?_
        rintro ⟨r, h8⟩ ⟨p8, er, g, B8⟩
        simp only at er g B8
        subst er
        have S8 := S7.call g
        have B1 := B1.grow g
        have B2 := B2.grow g
        have B3 := B3.grow g
        have B4 := B4.grow g
        have B5 := B5.grow g
        have B6 := B6.grow g
        have B7 := B7.grow g
        repeat (first | (with_reducible apply Tl.val; focus (simp (disch := omega) only [coreA, Int.reduceBEq, base_I5] <;> with_reducible rfl)) | (with_reducible first | refine Tl.brT ?_ | refine Tl.brF ?_ | refine Tl.gd_on ?_ | refine Tl.gd3_on ?_) | ((with_reducible first | apply Tl.brC | apply Tl.gdC | apply Tl.gd3C); focus (simp (disch := omega) only [coreA, Int.reduceBEq, base_I5] <;> with_reducible rfl)))
        refine Tl.bind (G (B.grow S8.grow)).1 ?_
        rintro ⟨r, h9⟩ ⟨x1, er, g, I1⟩
        simp only at er g I1
        subst er
        have S9 := S8.call g
        have B1 := B1.grow g
        have B2 := B2.grow g
        have B3 := B3.grow g
        have B4 := B4.grow g
        have B5 := B5.grow g
        have B6 := B6.grow g
        have B7 := B7.grow g
        have B8 := B8.grow g
        repeat (first | (with_reducible apply Tl.val; focus (simp (disch := omega) only [coreA, Int.reduceBEq, base_I5] <;> with_reducible rfl)) | (with_reducible first | refine Tl.brT ?_ | refine Tl.brF ?_ | refine Tl.gd_on ?_ | refine Tl.gd3_on ?_) | ((with_reducible first | apply Tl.brC | apply Tl.gdC | apply Tl.gd3C); focus (simp (disch := omega) only [coreA, Int.reduceBEq, base_I5] <;> with_reducible rfl)))
        refine Tl.bind (G (B.grow S9.grow)).2.1 ?_
        rintro ⟨r, h10⟩ ⟨x2, er, g, I2⟩
        simp only at er g I2
        subst er
        have S10 := S9.call g
        have B1 := B1.grow g
        have B2 := B2.grow g
        have B3 := B3.grow g
        have B4 := B4.grow g
        have B5 := B5.grow g
        have B6 := B6.grow g
        have B7 := B7.grow g
        have B8 := B8.grow g
        have I1 := Sl1.grow I1 g
        repeat (first | (with_reducible apply Tl.val; focus (simp (disch := omega) only [coreA, Int.reduceBEq, base_I5] <;> with_reducible rfl)) | (with_reducible first | refine Tl.brT ?_ | refine Tl.brF ?_ | refine Tl.gd_on ?_ | refine Tl.gd3_on ?_) | ((with_reducible first | apply Tl.brC | apply Tl.gdC | apply Tl.gd3C); focus (simp (disch := omega) only [coreA, Int.reduceBEq, base_I5] <;> with_reducible rfl)))
        refine Tl.bind (G (B.grow S10.grow)).2.2 ?_
        rintro ⟨r, h11⟩ ⟨er, g⟩
        simp only at er g
        subst er
        have B1 := B1.grow g
        have B2 := B2.grow g
        have B3 := B3.grow g
        have B4 := B4.grow g
        have B5 := B5.grow g
        have B6 := B6.grow g
        have B7 := B7.grow g
        have B8 := B8.grow g
        have I1 := Sl1.grow I1 g
        have I2 := Sl1.grow I2 g
        have s1 := f23c (k := k + 19999) B1 B2 (by omega) (by omega) (by omega)
        have s2 := f23c (k := k + 19999) B3 B4 (by omega) (by omega) (by omega)
        have s3 := f23c (k := k + 19999) B5 B6 (by omega) (by omega) (by omega)
        have s4 := f23c (k := k + 19999) B7 B8 (by omega) (by omega) (by omega)
        have s5 := f17c (k := k + 19999) I1 I2 (by omega) (by omega) (by omega)
        rw [decide_eq_true rfl] at s1 s2 s3 s4 s5
        have hx : ∀ h', pLen Try.prog #[25] x2 h' = some (.int .i64 m.length) := fun h' => Sl1.len I2 u25
        repeat (first | (with_reducible apply Tl.val; focus (simp (disch := omega) only [coreA, Int.reduceBEq, base_I5, s1, s2, s3, s4, s5, hx] <;> with_reducible rfl)) | (with_reducible first | refine Tl.brT ?_ | refine Tl.brF ?_ | refine Tl.gd_on ?_ | refine Tl.gd3_on ?_) | ((with_reducible first | apply Tl.brC | apply Tl.gdC | apply Tl.gd3C); focus (simp (disch := omega) only [coreA, Int.reduceBEq, base_I5, s1, s2, s3, s4, s5, hx] <;> with_reducible rfl)))
        exact ⟨_, rfl, rfl⟩
    · have q3 : ¬ l.length ≤ 200 := fun h => q (.inl h)
      have q4 : l.length ≤ 4096 := Decidable.byContradiction fun h => q (.inr h)
      repeat (first | (with_reducible apply Tl.val; focus (simp (disch := omega) only [coreA, Int.reduceBEq, base_I5, hv, hw] <;> with_reducible rfl)) | (with_reducible first | refine Tl.brT ?_ | refine Tl.brF ?_ | refine Tl.gd_on ?_ | refine Tl.gd3_on ?_) | ((with_reducible first | apply Tl.brC | apply Tl.gdC | apply Tl.gd3C); focus (simp (disch := omega) only [coreA, Int.reduceBEq, base_I5, hv, hw] <;> with_reducible rfl)))
      exact ⟨_, rfl, rfl⟩
  · by_cases q3 : l.length ≤ 200
    · repeat (first | (with_reducible apply Tl.val; focus (simp (disch := omega) only [coreA, Int.reduceBEq, base_I5, hv, hw] <;> with_reducible rfl)) | (with_reducible first | refine Tl.brT ?_ | refine Tl.brF ?_ | refine Tl.gd_on ?_ | refine Tl.gd3_on ?_) | ((with_reducible first | apply Tl.brC | apply Tl.gdC | apply Tl.gd3C); focus (simp (disch := omega) only [coreA, Int.reduceBEq, base_I5, hv, hw] <;> with_reducible rfl)))
      exact ⟨_, rfl, rfl⟩
    · by_cases q4 : l.length ≤ 4096
      · repeat (first | (with_reducible apply Tl.val; focus (simp (disch := omega) only [coreA, Int.reduceBEq, base_I5, hv, hw] <;> with_reducible rfl)) | (with_reducible first | refine Tl.brT ?_ | refine Tl.brF ?_ | refine Tl.gd_on ?_ | refine Tl.gd3_on ?_) | ((with_reducible first | apply Tl.brC | apply Tl.gdC | apply Tl.gd3C); focus (simp (disch := omega) only [coreA, Int.reduceBEq, base_I5, hv, hw] <;> with_reducible rfl)))
        exact ⟨_, rfl, rfl⟩
      · repeat (first | (with_reducible apply Tl.val; focus (simp (disch := omega) only [coreA, Int.reduceBEq, base_I5, hv, hw] <;> with_reducible rfl)) | (with_reducible first | refine Tl.brT ?_ | refine Tl.brF ?_ | refine Tl.gd_on ?_ | refine Tl.gd3_on ?_) | ((with_reducible first | apply Tl.brC | apply Tl.gdC | apply Tl.gd3C); focus (simp (disch := omega) only [coreA, Int.reduceBEq, base_I5, hv, hw] <;> with_reducible rfl)))
        exact ⟨_, rfl, rfl⟩
end Go.Proofs.Ytcidbbkefpeahaa.Sh
