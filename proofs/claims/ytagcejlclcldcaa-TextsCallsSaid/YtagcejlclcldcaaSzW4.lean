/- 'TextsCalls' comes to true. -/
import Derived.Test.YtagcejlclcldcaaSzW0
import Derived.Test.YtagcejlclcldcaaSzXj
set_option linter.unusedVariables false
set_option linter.unusedSimpArgs false
set_option maxRecDepth 100000
namespace Go.Proofs.Ytagcejlclcldcaa.Sh
open Go Go.RowKit Go.Proofs.Ev
theorem base_W4 : type_of% (And.intro @ld3 (And.intro @ld5 (And.intro @ld9 (And.intro @ld22 (And.intro @ld30 (And.intro (fun ox oy a b => bin_eql_bool (ox := ox) (oy := oy) (a := a) (b := b) u4) (And.intro @ex2_0 (And.intro @ex2_1 (@Nat.add_zero))))))))) := And.intro @ld3 (And.intro @ld5 (And.intro @ld9 (And.intro @ld22 (And.intro @ld30 (And.intro (fun ox oy a b => bin_eql_bool (ox := ox) (oy := oy) (a := a) (b := b) u4) (And.intro @ex2_0 (And.intro @ex2_1 (@Nat.add_zero))))))))
theorem f24_loop {β : Type} {inv : Inv} {k : Nat} {Q : β → Prop} {h : AH} {v w : Value} {l : List Nat} (A : Bytes h v l) (B : Bytes h w l) (hl : l.length ≤ 2 ^ 40) {ke0 : Value → Value → Value → Value → AH → Option β} {kr : Value → AH → Option β} (n : Nat) :
    ∀ {i j : Nat}, i + n = l.length → n < j → (∀ y1 y2, Tl (ke0 v w y1 y2 h) Q) → Tl (F24_lrlrr inv k j v w (.int .i64 i) h ke0 kr) Q := by
  have hv : ∀ h', pLen Try.prog #[30] v h' = some (.int .i64 l.length) := fun h' => A.len
  induction n with
  | zero =>
    intro i j hi hj hk
    obtain ⟨j, rfl⟩ : ∃ q, j = q + 1 := ⟨j - 1, by omega⟩
    simp only [F24_lrlrr]
    repeat (first | (with_reducible apply Tl.val; focus (simp (disch := omega) only [coreA, Int.reduceBEq, base_W4, hv] <;> with_reducible rfl)) | (with_reducible first | refine Tl.brT ?_ | refine Tl.brF ?_ | refine Tl.gd_on ?_ | refine Tl.gd3_on ?_) | ((with_reducible first | apply Tl.brC | apply Tl.gdC | apply Tl.gd3C); focus (simp (disch := omega) only [coreA, Int.reduceBEq, base_W4, hv] <;> with_reducible rfl)))
    exact hk _ _
  | succ n ih =>
    intro i j hi hj hk
    obtain ⟨j, rfl⟩ : ∃ q, j = q + 1 := ⟨j - 1, by omega⟩
    obtain ⟨x, ex⟩ : ∃ x, l[i]? = some x := ⟨_, List.getElem?_eq_getElem (by omega)⟩
    obtain ⟨b1, o1, hp1, hc1⟩ := A.at_ ex
    obtain ⟨b2, o2, hp2, hc2⟩ := B.at_ ex
    have hc1 := hc1 h (Grow.refl _)
    have hc2 := hc2 h (Grow.refl _)
    have e : (i : Int) + 1 = ((i + 1 : Nat) : Int) := by omega
    simp only [F24_lrlrr]
    repeat (first | (with_reducible apply Tl.val; focus (simp (disch := omega) only [coreA, Int.reduceBEq, base_W4, hv, hp1, hc1, hp2, hc2] <;> with_reducible rfl)) | (with_reducible first | refine Tl.brT ?_ | refine Tl.brF ?_ | refine Tl.gd_on ?_ | refine Tl.gd3_on ?_) | ((with_reducible first | apply Tl.brC | apply Tl.gdC | apply Tl.gd3C); focus (simp (disch := omega) only [coreA, Int.reduceBEq, base_W4, hv, hp1, hc1, hp2, hc2] <;> with_reducible rfl)))
    rw [e]
    exact ih (by omega) (by omega) hk
theorem f24c {k : Nat} {h : AH} {v w : Value} {l : List Nat} (A : Bytes h v l) (B : Bytes h w l) (hl : l.length ≤ 2 ^ 40) (hk : l.length < k) : eInv env (k + 1) (.func 24) #[] #[v, w] h = some (.bool true, h) := by
  have T : Tl (F24 (eInv env k) k v w h) fun r => r = (.bool true, h) := by
    unfold F24
    have hv : ∀ h', pLen Try.prog #[30] v h' = some (.int .i64 l.length) := fun h' => A.len
    have hw : ∀ h', pLen Try.prog #[30] w h' = some (.int .i64 l.length) := fun h' => B.len
    repeat (first | (with_reducible apply Tl.val; focus (simp (disch := omega) only [coreA, Int.reduceBEq, base_W4, hv, hw] <;> with_reducible rfl)) | (with_reducible first | refine Tl.brT ?_ | refine Tl.brF ?_ | refine Tl.gd_on ?_ | refine Tl.gd3_on ?_) | ((with_reducible first | apply Tl.brC | apply Tl.gdC | apply Tl.gd3C); focus (simp (disch := omega) only [coreA, Int.reduceBEq, base_W4, hv, hw] <;> with_reducible rfl)))
    exact f24_loop A B hl l.length (i := 0) (by omega) (by omega) fun y1 y2 => ⟨_, rfl, rfl⟩
  obtain ⟨r, h1, h2⟩ := T
  rw [F24_call, h1, h2]
theorem f6 {k : Nat} {h : AH} {v bv : Value} {l : List ByteArray} {b : List Nat} (A : Strs h v l) (B : Bytes h bv b) (hs : ∀ x ∈ l, x.size ≤ 2 ^ 47) (hl : l.length ≤ 9223372036854775807) (hb : ∀ x ∈ b, x < 256) (hbl : b.length ≤ 9223372036854775807) :
    Tl (F6 (eInv env (k + 300000)) (k + 300000) v bv h) fun r => r.1 = .bool true := by
  unfold F6
  have hlv := lives_call (k := k + 299999) (h := h)
  have hli := f9c (k := k + 299998) A hs hl (by omega)
  have lb : ∀ h', pLen Try.prog #[30] bv h' = some (.int .i64 b.length) := fun h' => B.len
  simp only [G6_3]
  cases q1 : lightT 60 600 l
  · rw [q1] at hli
    repeat (first | (with_reducible apply Tl.val; focus (simp (disch := omega) only [coreA, Int.reduceBEq, base_W4, hlv, hli] <;> with_reducible rfl)) | (with_reducible first | refine Tl.brT ?_ | refine Tl.brF ?_ | refine Tl.gd_on ?_ | refine Tl.gd3_on ?_) | ((with_reducible first | apply Tl.brC | apply Tl.gdC | apply Tl.gd3C); focus (simp (disch := omega) only [coreA, Int.reduceBEq, base_W4, hlv, hli] <;> with_reducible rfl)))
    exact ⟨_, rfl, rfl⟩
  rw [q1] at hli
  by_cases q2 : b.length ≤ 600
  case neg =>
    repeat (first | (with_reducible apply Tl.val; focus (simp (disch := omega) only [coreA, Int.reduceBEq, base_W4, hlv, hli, lb] <;> with_reducible rfl)) | (with_reducible first | refine Tl.brT ?_ | refine Tl.brF ?_ | refine Tl.gd_on ?_ | refine Tl.gd3_on ?_) | ((with_reducible first | apply Tl.brC | apply Tl.gdC | apply Tl.gd3C); focus (simp (disch := omega) only [coreA, Int.reduceBEq, base_W4, hlv, hli, lb] <;> with_reducible rfl)))
    exact ⟨_, rfl, rfl⟩
  obtain ⟨h60, h600⟩ : l.length ≤ 60 ∧ total l ≤ 600 := by
    unfold lightT at q1
    rw [Bool.and_eq_true, decide_eq_true_eq, decide_eq_true_eq] at q1
    exact q1
  have hsm : ∀ x ∈ l, x.size ≤ maxLen := fun x hx => by have := hs x hx; unfold maxLen; omega
  have hsz : ∀ x ∈ l, x.size ≤ 600 := fun x hx => by have := total_mem hx; omega
  have hmay : mayT l = true := mayT_spec.2 ⟨by omega, fun x hx => by have := hsz x hx; omega⟩
  have hgp : plainG l = plainT l := by unfold plainG; rw [hmay]; rfl
  have hgd : dictG l = dictT l := by unfold dictG; rw [hmay]; rfl
  have hpt : putT l = if (dictT l).length < (plainT l).length then dictT l else plainT l := by unfold putT; rw [if_pos hmay]
  have flat_le : ∀ w : List ByteArray, (∀ x ∈ w, x.size ≤ 600) → (w.flatMap textP).length ≤ w.length * 610 := by
    intro w
    induction w with
    | nil => intro _; simp
    | cons x w ih =>
      intro h
      have a := ih fun y hy => h y (List.mem_cons_of_mem _ hy)
      have c := h x (List.mem_cons_self ..)
      have b := textP_len x (by omega)
      rw [List.flatMap_cons, List.length_append, List.length_cons, Nat.succ_mul]
      omega
  have hwl := wordsB_len l
  have p1 := pvarN_le10 (n := l.length) (by omega)
  have p2 := pvarN_le10 (n := (wordsB l).length) (by omega)
  have hpl : (plainG l).length ≤ 100000 := by
    rw [hgp]
    have := flat_le l hsz
    have hm : l.length * 610 ≤ 60 * 610 := Nat.mul_le_mul_right _ h60
    unfold plainT
    rw [List.length_cons, List.length_append]
    omega
  have hdl : (dictG l).length ≤ 100000 := by
    rw [hgd]
    have := flat_le (wordsB l) fun x hx => hsz x (wordsB_mem.1 hx)
    have hm : (wordsB l).length * 610 ≤ 60 * 610 := Nat.mul_le_mul_right _ (by omega)
    have hw := Pk.width64 (l := atW l) fun y hy => by have := atW_lt y hy; omega
    have hp := (putN_spec (widW l) (atW l)).2.1
    have hal : (atW l).length = l.length := List.length_map ..
    have : l.length * widW l ≤ 60 * 64 := Nat.mul_le_mul h60 hw
    unfold dictT
    simp only [List.length_append, List.length_singleton]
    rw [hp, hal]
    omega
  have hsl : (putT l).length ≤ 100000 := by rw [hpt, ← hgp, ← hgd]; split <;> assumption
  repeat (first | (with_reducible apply Tl.val; focus (simp (disch := omega) only [coreA, Int.reduceBEq, base_W4, hlv, hli, lb] <;> with_reducible rfl)) | (with_reducible first | refine Tl.brT ?_ | refine Tl.brF ?_ | refine Tl.gd_on ?_ | refine Tl.gd3_on ?_) | ((with_reducible first | apply Tl.brC | apply Tl.gdC | apply Tl.gd3C); focus (simp (disch := omega) only [coreA, Int.reduceBEq, base_W4, hlv, hli, lb] <;> with_reducible rfl)))
  refine Tl.bind (f15c (k := k + 299978) A hl (by omega)) ?_
  rintro ⟨r, h1⟩ ⟨pv, er, S1⟩
  simp only at er S1
  subst er
  repeat (first | (with_reducible apply Tl.val; focus (simp (disch := omega) only [coreA, Int.reduceBEq, base_W4] <;> with_reducible rfl)) | (with_reducible first | refine Tl.brT ?_ | refine Tl.brF ?_ | refine Tl.gd_on ?_ | refine Tl.gd3_on ?_) | ((with_reducible first | apply Tl.brC | apply Tl.gdC | apply Tl.gd3C); focus (simp (disch := omega) only [coreA, Int.reduceBEq, base_W4] <;> with_reducible rfl)))
  refine Tl.bind (f20c (k := k + 299978) (A.grow S1.grow) hl (by omega)) ?_
  rintro ⟨r, h2⟩ ⟨qv, er, S2⟩
  simp only at er S2
  subst er
  have S2 := S1.join S2
  repeat (first | (with_reducible apply Tl.val; focus (simp (disch := omega) only [coreA, Int.reduceBEq, base_W4] <;> with_reducible rfl)) | (with_reducible first | refine Tl.brT ?_ | refine Tl.brF ?_ | refine Tl.gd_on ?_ | refine Tl.gd3_on ?_) | ((with_reducible first | apply Tl.brC | apply Tl.gdC | apply Tl.gd3C); focus (simp (disch := omega) only [coreA, Int.reduceBEq, base_W4] <;> with_reducible rfl)))
  refine Tl.bind (f17c (k := k + 299600) (A.grow S2.grow) hl (by omega)) ?_
  rintro ⟨r, h3⟩ ⟨dv, er, S3⟩
  simp only at er S3
  subst er
  have S3 := S2.join S3
  repeat (first | (with_reducible apply Tl.val; focus (simp (disch := omega) only [coreA, Int.reduceBEq, base_W4] <;> with_reducible rfl)) | (with_reducible first | refine Tl.brT ?_ | refine Tl.brF ?_ | refine Tl.gd_on ?_ | refine Tl.gd3_on ?_) | ((with_reducible first | apply Tl.brC | apply Tl.gdC | apply Tl.gd3C); focus (simp (disch := omega) only [coreA, Int.reduceBEq, base_W4] <;> with_reducible rfl)))
  refine Tl.bind (f21c (k := k + 299600) (A.grow S3.grow) hl (by omega)) ?_
  rintro ⟨r, h4⟩ ⟨ev, er, S4⟩
  simp only at er S4
  subst er
  have S4 := S3.join S4
  repeat (first | (with_reducible apply Tl.val; focus (simp (disch := omega) only [coreA, Int.reduceBEq, base_W4] <;> with_reducible rfl)) | (with_reducible first | refine Tl.brT ?_ | refine Tl.brF ?_ | refine Tl.gd_on ?_ | refine Tl.gd3_on ?_) | ((with_reducible first | apply Tl.brC | apply Tl.gdC | apply Tl.gd3C); focus (simp (disch := omega) only [coreA, Int.reduceBEq, base_W4] <;> with_reducible rfl)))
  refine Tl.bind (f16c (k := k + 299599) (A.grow S4.grow) hl (by omega)) ?_
  rintro ⟨r, h5⟩ ⟨tv, er, S5⟩
  simp only at er S5
  subst er
  have S5 := S4.join S5
  repeat (first | (with_reducible apply Tl.val; focus (simp (disch := omega) only [coreA, Int.reduceBEq, base_W4] <;> with_reducible rfl)) | (with_reducible first | refine Tl.brT ?_ | refine Tl.brF ?_ | refine Tl.gd_on ?_ | refine Tl.gd3_on ?_) | ((with_reducible first | apply Tl.brC | apply Tl.gdC | apply Tl.gd3C); focus (simp (disch := omega) only [coreA, Int.reduceBEq, base_W4] <;> with_reducible rfl)))
  refine Tl.bind (f22c (k := k + 299599) (A.grow S5.grow) hl (by omega)) ?_
  rintro ⟨r, h6⟩ ⟨uv, er, S6⟩
  simp only at er S6
  subst er
  have S6 := S5.join S6
  have Bp : Bytes h6 pv (plainG l) := S6.sl1 (f := u8v) 5 rfl
  have Bq : Bytes h6 qv (plainG l) := S6.sl1 (f := u8v) 4 rfl
  have Bd : Bytes h6 dv (dictG l) := S6.sl1 (f := u8v) 3 rfl
  have Be : Bytes h6 ev (dictG l) := S6.sl1 (f := u8v) 2 rfl
  have Bt : Bytes h6 tv (putT l) := S6.sl1 (f := u8v) 1 rfl
  have Bu : Bytes h6 uv (putT l) := S6.sl1 (f := u8v) 0 rfl
  repeat (first | (with_reducible apply Tl.val; focus (simp (disch := omega) only [coreA, Int.reduceBEq, base_W4] <;> with_reducible rfl)) | (with_reducible first | refine Tl.brT ?_ | refine Tl.brF ?_ | refine Tl.gd_on ?_ | refine Tl.gd3_on ?_) | ((with_reducible first | apply Tl.brC | apply Tl.gdC | apply Tl.gd3C); focus (simp (disch := omega) only [coreA, Int.reduceBEq, base_W4] <;> with_reducible rfl)))
  have fin : ∀ (h8 : AH) (o1 o2 : Value) (m : List ByteArray) (e : Int), Grow h6 h8 → Strs h8 o1 m → Strs h8 o2 m → m.length ≤ 4096 →
      Tl (G6_13 (eInv env (k + 300000)) v pv (.int .i64 (checkT l)) qv (.int .i64 (checkT l)) dv (.int .i64 (checkT l)) ev (.int .i64 (checkT l)) tv (.int .i64 (checkT l)) uv (.int .i64 (checkT l)) o1 (.int .i64 e) o2 (.int .i64 e) h8 fun y4 h_1 => some (y4, h_1)) fun r => r.1 = .bool true := by
    intro h8 o1 o2 m e g A1 A2 hm
    simp only [G6_13]
    have s1 := f24c (k := k + 299999) (Bp.grow g) (Bq.grow g) (by omega) (by omega)
    have s2 := f24c (k := k + 299999) (Bd.grow g) (Be.grow g) (by omega) (by omega)
    have s3 := f24c (k := k + 299999) (Bt.grow g) (Bu.grow g) (by omega) (by omega)
    have s4 := f14c (k := k + 299999) A1 A2 (by omega) (by omega) (by omega)
    rw [decide_eq_true rfl] at s4
    repeat (first | (with_reducible apply Tl.val; focus (simp (disch := omega) only [coreA, Int.reduceBEq, base_W4, s1, s2, s3, s4] <;> with_reducible rfl)) | (with_reducible first | refine Tl.brT ?_ | refine Tl.brF ?_ | refine Tl.gd_on ?_ | refine Tl.gd3_on ?_) | ((with_reducible first | apply Tl.brC | apply Tl.gdC | apply Tl.gd3C); focus (simp (disch := omega) only [coreA, Int.reduceBEq, base_W4, s1, s2, s3, s4] <;> with_reducible rfl)))
    have gA := S6.grow.trans g
    refine Tl.bind (f10c (k := k + 299997) (Stt.init h8) (A.grow gA) hsm (by omega) (by omega)) ?_
    rintro ⟨w1, h9⟩ S9
    simp only at S9
    repeat (first | (with_reducible apply Tl.val; focus (simp (disch := omega) only [coreA, Int.reduceBEq, base_W4] <;> with_reducible rfl)) | (with_reducible first | refine Tl.brT ?_ | refine Tl.brF ?_ | refine Tl.gd_on ?_ | refine Tl.gd3_on ?_) | ((with_reducible first | apply Tl.brC | apply Tl.gdC | apply Tl.gd3C); focus (simp (disch := omega) only [coreA, Int.reduceBEq, base_W4] <;> with_reducible rfl)))
    refine Tl.bind (f25c (k := k + 299999) (A.grow (gA.trans S9.grow)) (by omega) (by omega)) ?_
    rintro ⟨w2, h10⟩ S10
    simp only at S10
    have s5 := f14c (k := k + 299999) ((Stt.strs S9 0 rfl).grow S10.grow) (Stt.strs S10 0 rfl) (by omega) (by omega) (by omega)
    rw [decide_eq_true rfl] at s5
    repeat (first | (with_reducible apply Tl.val; focus (simp (disch := omega) only [coreA, Int.reduceBEq, base_W4, s5] <;> with_reducible rfl)) | (with_reducible first | refine Tl.brT ?_ | refine Tl.brF ?_ | refine Tl.gd_on ?_ | refine Tl.gd3_on ?_) | ((with_reducible first | apply Tl.brC | apply Tl.gdC | apply Tl.gd3C); focus (simp (disch := omega) only [coreA, Int.reduceBEq, base_W4, s5] <;> with_reducible rfl)))
    exact ⟨_, rfl, rfl⟩
  refine Tl.bind (f18c (k := k + 299100) (B.grow S6.grow) hb (by omega) (by omega) (by omega)) ?_
  rintro ⟨r, h7⟩ (⟨m, o1, hg, er, hml, L, S7⟩ | ⟨hg, er, g7⟩)
  · simp only at er S7
    subst er
    repeat (first | (with_reducible apply Tl.val; focus (simp (disch := omega) only [coreA, Int.reduceBEq, base_W4] <;> with_reducible rfl)) | (with_reducible first | refine Tl.brT ?_ | refine Tl.brF ?_ | refine Tl.gd_on ?_ | refine Tl.gd3_on ?_) | ((with_reducible first | apply Tl.brC | apply Tl.gdC | apply Tl.gd3C); focus (simp (disch := omega) only [coreA, Int.reduceBEq, base_W4] <;> with_reducible rfl)))
    refine Tl.bind (f23c (k := k + 299100) (B.grow (S6.grow.trans S7.grow)) hb (by omega) (by omega) (by omega)) ?_
    rintro ⟨r, h8⟩ (⟨m2, o2, hg2, er, hml2, L2, S8⟩ | ⟨hg2, er, g8⟩)
    case inr => rw [hg] at hg2; cases hg2
    rw [hg] at hg2
    cases hg2
    simp only at er S8
    subst er
    repeat (first | (with_reducible apply Tl.val; focus (simp (disch := omega) only [coreA, Int.reduceBEq, base_W4] <;> with_reducible rfl)) | (with_reducible first | refine Tl.brT ?_ | refine Tl.brF ?_ | refine Tl.gd_on ?_ | refine Tl.gd3_on ?_) | ((with_reducible first | apply Tl.brC | apply Tl.gdC | apply Tl.gd3C); focus (simp (disch := omega) only [coreA, Int.reduceBEq, base_W4] <;> with_reducible rfl)))
    exact fin h8 o1 o2 m 0 (S7.grow.trans S8.grow) ((Stt.strs S7 0 rfl).grow S8.grow) (Stt.strs S8 0 rfl) hml
  · simp only at er g7
    subst er
    repeat (first | (with_reducible apply Tl.val; focus (simp (disch := omega) only [coreA, Int.reduceBEq, base_W4] <;> with_reducible rfl)) | (with_reducible first | refine Tl.brT ?_ | refine Tl.brF ?_ | refine Tl.gd_on ?_ | refine Tl.gd3_on ?_) | ((with_reducible first | apply Tl.brC | apply Tl.gdC | apply Tl.gd3C); focus (simp (disch := omega) only [coreA, Int.reduceBEq, base_W4] <;> with_reducible rfl)))
    refine Tl.bind (f23c (k := k + 299100) (B.grow (S6.grow.trans g7)) hb (by omega) (by omega) (by omega)) ?_
    rintro ⟨r, h8⟩ (⟨m2, o2, hg2, er, hml2, L2, S8⟩ | ⟨hg2, er, g8⟩)
    · rw [hg] at hg2; cases hg2
    simp only at er g8
    subst er
    repeat (first | (with_reducible apply Tl.val; focus (simp (disch := omega) only [coreA, Int.reduceBEq, base_W4] <;> with_reducible rfl)) | (with_reducible first | refine Tl.brT ?_ | refine Tl.brF ?_ | refine Tl.gd_on ?_ | refine Tl.gd3_on ?_) | ((with_reducible first | apply Tl.brC | apply Tl.gdC | apply Tl.gd3C); focus (simp (disch := omega) only [coreA, Int.reduceBEq, base_W4] <;> with_reducible rfl)))
    exact fin h8 (.slice none 0 0) (.slice none 0 0) [] 4 (g7.trans g8) (.inl ⟨rfl, rfl⟩) (.inl ⟨rfl, rfl⟩) (by simp)
end Go.Proofs.Ytagcejlclcldcaa.Sh
