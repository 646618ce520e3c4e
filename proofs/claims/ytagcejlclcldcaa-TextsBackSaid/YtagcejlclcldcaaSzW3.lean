/- 'TextsBack' comes to true. -/
import Derived.Test.YtagcejlclcldcaaSzW1
import Derived.Test.YtagcejlclcldcaaSzXg
set_option linter.unusedVariables false
set_option linter.unusedSimpArgs false
set_option maxRecDepth 100000
namespace Go.Proofs.Ytagcejlclcldcaa.Sh
open Go Go.RowKit Go.Proofs.Ev
theorem base_W3 : type_of% (And.intro @ld3 (And.intro @ld9 (And.intro @ld22 (And.intro @ld30 (And.intro (fun ox oy a b => bin_eql_bool (ox := ox) (oy := oy) (a := a) (b := b) u4) (And.intro @ex2_0 (And.intro @ex2_1 (@Nat.add_zero)))))))) := And.intro @ld3 (And.intro @ld9 (And.intro @ld22 (And.intro @ld30 (And.intro (fun ox oy a b => bin_eql_bool (ox := ox) (oy := oy) (a := a) (b := b) u4) (And.intro @ex2_0 (And.intro @ex2_1 (@Nat.add_zero)))))))
theorem bs39_3 (a : Option Addr) (m c : Nat) (a' : Option Addr) (m' c' : Nat) (a2 : Option Addr) (m2 c2 : Nat) (h : AH) : pBuildSlice Try.prog 39 3 #[(0, .slice a m c), (1, .slice a' m' c'), (2, .slice a2 m2 c2)] h = some (.slice (some ⟨h.n, 0, none⟩) 3 3, h.alloc (.cells [.slice a m c, .slice a' m' c', .slice a2 m2 c2] 30 true)) := by kernel_rfl
theorem min2 (m x : Nat) : pMinMax Try.prog false #[.int .i64 m, .int .i64 x] = some (.int .i64 ((if x < m then x else m : Nat) : Int)) := by
  by_cases h : x < m
  · have h' : (x : Int) < m := by omega
    rw [if_pos h]
    simp [pMinMax, Builtin.min_, Builtin.min2, h', chk, plain, plain0]
  · have h' : ¬ (x : Int) < m := by omega
    rw [if_neg h]
    simp [pMinMax, Builtin.min_, Builtin.min2, h', chk, plain, plain0]
theorem f7_loop {β : Type} {k : Nat} {Q : β → Prop} {h1 : AH} {v x1 lv : Value} {l : List ByteArray} {xs : List Value} (A : Strs h1 v l) (hl : l.length ≤ 4096) (X : Sl1 Try.prog h1 lv id xs) (hx : ∀ x ∈ xs, ∃ bs, Bytes h1 x bs ∧ (∀ y ∈ bs, y < 256) ∧ bs.length ≤ 2 ^ 30 ∧ bs.length < k ∧ getT bs = some l) (hk : 4096 < k) (hxs : xs.length = 3)
    {ke0 : Value → Value → Value → Value → Value → Value → AH → Option β} {kr : Value → AH → Option β} (n : Nat) :
    ∀ {i j : Nat} {h : AH}, i + n = 3 → n < j → Grow h1 h → (∀ h' y1 y2, Grow h1 h' → Tl (ke0 v x1 lv (.int .i64 3) y1 y2 h') Q) →
      Tl (F7_lrlrrrrrrr (eInv env (k + 900)) (k + 900) j v x1 lv (.int .i64 3) (.int .i64 i) h ke0 kr) Q := by
  induction n with
  | zero =>
    intro i j h hi hj g hk2
    obtain ⟨j, rfl⟩ : ∃ q, j = q + 1 := ⟨j - 1, by omega⟩
    simp only [F7_lrlrrrrrrr]
    repeat (first | (with_reducible apply Tl.val; focus (simp (disch := omega) only [coreA, Int.reduceBEq, base_W3] <;> with_reducible rfl)) | (with_reducible first | refine Tl.brT ?_ | refine Tl.brF ?_ | refine Tl.gd_on ?_ | refine Tl.gd3_on ?_) | ((with_reducible first | apply Tl.brC | apply Tl.gdC | apply Tl.gd3C); focus (simp (disch := omega) only [coreA, Int.reduceBEq, base_W3] <;> with_reducible rfl)))
    exact hk2 _ _ _ g
  | succ n ih =>
    intro i j h hi hj g hk2
    obtain ⟨j, rfl⟩ : ∃ q, j = q + 1 := ⟨j - 1, by omega⟩
    obtain ⟨x, ex⟩ : ∃ x, xs[i]? = some x := ⟨_, List.getElem?_eq_getElem (by omega)⟩
    obtain ⟨b, o, hp, hc⟩ := Sl1.at_ X (t := 39) (k := .i64) ex u39 sz30
    have hc : h.cell b o = some x := hc h g
    obtain ⟨bs, B, b1, b2, b3, b4⟩ := hx x (List.mem_of_getElem? ex)
    have e : (i : Int) + 1 = ((i + 1 : Nat) : Int) := by omega
    simp only [F7_lrlrrrrrrr, G7_14]
    repeat (first | (with_reducible apply Tl.val; focus (simp (disch := omega) only [coreA, Int.reduceBEq, base_W3, hp, hc] <;> with_reducible rfl)) | (with_reducible first | refine Tl.brT ?_ | refine Tl.brF ?_ | refine Tl.gd_on ?_ | refine Tl.gd3_on ?_) | ((with_reducible first | apply Tl.brC | apply Tl.gdC | apply Tl.gd3C); focus (simp (disch := omega) only [coreA, Int.reduceBEq, base_W3, hp, hc] <;> with_reducible rfl)))
    refine Tl.bind (f18c (k := k) (B.grow g) b1 b2 b3 hk) ?_
    rintro ⟨r, h2⟩ (⟨m, ov, hg, er, hml, L, S2⟩ | ⟨hg, er, g2⟩)
    case inr => rw [b4] at hg; cases hg
    rw [b4] at hg
    cases hg
    simp only at er S2
    subst er
    have g2 := S2.grow
    have hs := f14c (k := k + 899) (Stt.strs S2 0 rfl) (A.grow (g.trans g2)) (by omega) (by omega) (by omega)
    rw [decide_eq_true rfl] at hs
    repeat (first | (with_reducible apply Tl.val; focus (simp (disch := omega) only [coreA, Int.reduceBEq, base_W3, hs] <;> with_reducible rfl)) | (with_reducible first | refine Tl.brT ?_ | refine Tl.brF ?_ | refine Tl.gd_on ?_ | refine Tl.gd3_on ?_) | ((with_reducible first | apply Tl.brC | apply Tl.gdC | apply Tl.gd3C); focus (simp (disch := omega) only [coreA, Int.reduceBEq, base_W3, hs] <;> with_reducible rfl)))
    rw [e]
    exact ih (by omega) (by omega) (g.trans g2) hk2
theorem Bytes.form {h : AH} {v : Value} {l : List Nat} (B : Bytes h v l) : ∃ a m c, v = .slice a m c := by
  obtain ⟨a, c, e, _⟩ := SlV.form B
  exact ⟨a, _, c, e⟩
theorem f7 {k : Nat} {h : AH} {v bv : Value} {l : List ByteArray} {b : List Nat} (A : Strs h v l) (B : Bytes h bv b) (hs : ∀ x ∈ l, x.size ≤ 2 ^ 47) (hl : l.length ≤ 9223372036854775807) (hb : ∀ x ∈ b, x < 256) (hbl : b.length ≤ 9223372036854775807) :
    Tl (F7 (eInv env (k + 300000)) (k + 300000) v bv h) fun r => r.1 = .bool true := by
  unfold F7
  have hlv := lives_call (k := k + 299999) (h := h)
  have hli := f9c (k := k + 299998) A hs hl (by omega)
  have lb : ∀ h', pLen Try.prog #[30] bv h' = some (.int .i64 b.length) := fun h' => B.len
  simp only [G7_3]
  cases q1 : lightT 60 600 l
  · rw [q1] at hli
    repeat (first | (with_reducible apply Tl.val; focus (simp (disch := omega) only [coreA, Int.reduceBEq, base_W3, hlv, hli] <;> with_reducible rfl)) | (with_reducible first | refine Tl.brT ?_ | refine Tl.brF ?_ | refine Tl.gd_on ?_ | refine Tl.gd3_on ?_) | ((with_reducible first | apply Tl.brC | apply Tl.gdC | apply Tl.gd3C); focus (simp (disch := omega) only [coreA, Int.reduceBEq, base_W3, hlv, hli] <;> with_reducible rfl)))
    exact ⟨_, rfl, rfl⟩
  rw [q1] at hli
  by_cases q2 : b.length ≤ 600
  case neg =>
    repeat (first | (with_reducible apply Tl.val; focus (simp (disch := omega) only [coreA, Int.reduceBEq, base_W3, hlv, hli, lb] <;> with_reducible rfl)) | (with_reducible first | refine Tl.brT ?_ | refine Tl.brF ?_ | refine Tl.gd_on ?_ | refine Tl.gd3_on ?_) | ((with_reducible first | apply Tl.brC | apply Tl.gdC | apply Tl.gd3C); focus (simp (disch := omega) only [coreA, Int.reduceBEq, base_W3, hlv, hli, lb] <;> with_reducible rfl)))
    exact ⟨_, rfl, rfl⟩
  obtain ⟨h60, h600⟩ : l.length ≤ 60 ∧ total l ≤ 600 := by
    unfold lightT at q1
    rw [Bool.and_eq_true, decide_eq_true_eq, decide_eq_true_eq] at q1
    exact q1
  have hsz : ∀ x ∈ l, x.size ≤ 600 := fun x hx => by have := total_mem hx; omega
  have hmay : mayT l = true := mayT_spec.2 ⟨by omega, fun x hx => by have := hsz x hx; omega⟩
  have hchk : checkT l = 0 := by unfold checkT; rw [hmay]; rfl
  have hgp : plainG l = plainT l := by unfold plainG; rw [hmay]; rfl
  have hgd : dictG l = dictT l := by unfold dictG; rw [hmay]; rfl
  have hpt : putT l = if (dictT l).length < (plainT l).length then dictT l else plainT l := by unfold putT; rw [if_pos hmay]
  have flat_le : ∀ w : List ByteArray, (∀ x ∈ w, x.size ≤ 600) → (w.flatMap textP).length ≤ w.length * 610 := by
    intro w
    induction w with
    | nil => intro _; simp
    | cons x w ih =>
      intro h
      have a := ih fun y hy => h y (List.mem_cons_of_mem _ hy)
      have c := h x (List.mem_cons_self ..)
      have b := textP_len x (by omega)
      rw [List.flatMap_cons, List.length_append, List.length_cons, Nat.succ_mul]
      omega
  have hwl := wordsB_len l
  have p1 := pvarN_le10 (n := l.length) (by omega)
  have p2 := pvarN_le10 (n := (wordsB l).length) (by omega)
  have hpl : (plainT l).length ≤ 100000 := by
    have := flat_le l hsz
    have hm : l.length * 610 ≤ 60 * 610 := Nat.mul_le_mul_right _ h60
    unfold plainT
    rw [List.length_cons, List.length_append]
    omega
  have hdl : (dictT l).length ≤ 100000 := by
    have := flat_le (wordsB l) fun x hx => hsz x (wordsB_mem.1 hx)
    have hm : (wordsB l).length * 610 ≤ 60 * 610 := Nat.mul_le_mul_right _ (by omega)
    have hw := Pk.width64 (l := atW l) fun y hy => by have := atW_lt y hy; omega
    have hp := (putN_spec (widW l) (atW l)).2.1
    have hal : (atW l).length = l.length := List.length_map ..
    have : l.length * widW l ≤ 60 * 64 := Nat.mul_le_mul h60 hw
    unfold dictT
    simp only [List.length_append, List.length_singleton]
    rw [hp, hal]
    omega
  have hsl : (putT l).length ≤ 100000 := by rw [hpt]; split <;> assumption
  have g1 : getT (plainT l) = some l := getT_plain hmay
  have g2 : getT (dictT l) = some l := getT_dict hmay
  have g3 : getT (putT l) = some l := getT_put hmay
  have b1 : ∀ x ∈ plainT l, x < 256 := by rw [← hgp]; exact plainG_256 l
  have b2 : ∀ x ∈ dictT l, x < 256 := by rw [← hgd]; exact dictG_256 l
  have b3 : ∀ x ∈ putT l, x < 256 := by rw [hpt]; split <;> assumption
  repeat (first | (with_reducible apply Tl.val; focus (simp (disch := omega) only [coreA, Int.reduceBEq, base_W3, hlv, hli, lb] <;> with_reducible rfl)) | (with_reducible first | refine Tl.brT ?_ | refine Tl.brF ?_ | refine Tl.gd_on ?_ | refine Tl.gd3_on ?_) | ((with_reducible first | apply Tl.brC | apply Tl.gdC | apply Tl.gd3C); focus (simp (disch := omega) only [coreA, Int.reduceBEq, base_W3, hlv, hli, lb] <;> with_reducible rfl)))
  refine Tl.bind (f15c (k := k + 299978) A hl (by omega)) ?_
  rintro ⟨r, h1⟩ ⟨pv, er, S1⟩
  simp only at er S1
  subst er
  rw [hchk]
  rw [hgp] at S1
  repeat (first | (with_reducible apply Tl.val; focus (simp (disch := omega) only [coreA, Int.reduceBEq, base_W3] <;> with_reducible rfl)) | (with_reducible first | refine Tl.brT ?_ | refine Tl.brF ?_ | refine Tl.gd_on ?_ | refine Tl.gd3_on ?_) | ((with_reducible first | apply Tl.brC | apply Tl.gdC | apply Tl.gd3C); focus (simp (disch := omega) only [coreA, Int.reduceBEq, base_W3] <;> with_reducible rfl)))
  refine Tl.bind (f17c (k := k + 299600) (A.grow S1.grow) hl (by omega)) ?_
  rintro ⟨r, h2⟩ ⟨dv, er, S2⟩
  simp only at er S2
  subst er
  rw [hchk]
  rw [hgd] at S2
  have S2 := S1.join S2
  repeat (first | (with_reducible apply Tl.val; focus (simp (disch := omega) only [coreA, Int.reduceBEq, base_W3] <;> with_reducible rfl)) | (with_reducible first | refine Tl.brT ?_ | refine Tl.brF ?_ | refine Tl.gd_on ?_ | refine Tl.gd3_on ?_) | ((with_reducible first | apply Tl.brC | apply Tl.gdC | apply Tl.gd3C); focus (simp (disch := omega) only [coreA, Int.reduceBEq, base_W3] <;> with_reducible rfl)))
  refine Tl.bind (f16c (k := k + 299599) (A.grow S2.grow) hl (by omega)) ?_
  rintro ⟨r, h3⟩ ⟨sv, er, S3⟩
  simp only at er S3
  subst er
  rw [hchk]
  have S3 := S2.join S3
  have Bp : Bytes h3 pv (plainT l) := S3.sl1 (f := u8v) 2 rfl
  have Bd : Bytes h3 dv (dictT l) := S3.sl1 (f := u8v) 1 rfl
  have Bs : Bytes h3 sv (putT l) := S3.sl1 (f := u8v) 0 rfl
  have lp : ∀ h', pLen Try.prog #[30] pv h' = some (.int .i64 (plainT l).length) := fun h' => Bp.len
  have ld : ∀ h', pLen Try.prog #[30] dv h' = some (.int .i64 (dictT l).length) := fun h' => Bd.len
  have ls : ∀ h', pLen Try.prog #[30] sv h' = some (.int .i64 (putT l).length) := fun h' => Bs.len
  have mm := min2 (plainT l).length (dictT l).length
  have hmin : (putT l).length = if (dictT l).length < (plainT l).length then (dictT l).length else (plainT l).length := by rw [hpt]; split <;> rfl
  rw [← hmin] at mm
  obtain ⟨a1, m1, c1, e1⟩ := Bp.form
  obtain ⟨a2, m2, c2, e2⟩ := Bd.form
  obtain ⟨a3, m3, c3, e3⟩ := Bs.form
  have hbs : pBuildSlice Try.prog 39 3 #[(0, pv), (1, dv), (2, sv)] h3 = some (.slice (some ⟨h3.n, 0, none⟩) 3 3, h3.alloc (.cells [pv, dv, sv] 30 true)) := by rw [e1, e2, e3]; exact bs39_3 ..
  simp only [G7_8]
  repeat (first | (with_reducible apply Tl.val; focus (simp (disch := omega) only [coreA, Int.reduceBEq, base_W3, lp, ld, ls, mm, hbs] <;> with_reducible rfl)) | (with_reducible first | refine Tl.brT ?_ | refine Tl.brF ?_ | refine Tl.gd_on ?_ | refine Tl.gd3_on ?_) | ((with_reducible first | apply Tl.brC | apply Tl.gdC | apply Tl.gd3C); focus (simp (disch := omega) only [coreA, Int.reduceBEq, base_W3, lp, ld, ls, mm, hbs] <;> with_reducible rfl)))
  have S4 : Stt Try.prog h.n h (h3.alloc (.cells [pv, dv, sv] 30 true)) [(h3.n, .cells ([pv, dv, sv].map fun x => [x]).flatten 30 true)] _ := S3.alloc _
  have S5 := S4.absorb (n := 1) (fun r hr => by
    obtain ⟨x, _, rfl⟩ := List.mem_map.1 hr
    rfl) sz30
  have gr : Grow h3 (h3.alloc (.cells [pv, dv, sv] 30 true)) := Grow.alloc _ _
  have X : Sl1 Try.prog (h3.alloc (.cells [pv, dv, sv] 30 true)) (.slice (some ⟨h3.n, 0, none⟩) 3 3) id [pv, dv, sv] := S5.slV 0 rfl
  have l3 : ∀ h', pLen Try.prog #[39] (.slice (some ⟨h3.n, 0, none⟩) 3 3) h' = some (.int .i64 3) := fun h' => Sl1.len X u39
  repeat (first | (with_reducible apply Tl.val; focus (simp (disch := omega) only [coreA, Int.reduceBEq, base_W3, l3] <;> with_reducible rfl)) | (with_reducible first | refine Tl.brT ?_ | refine Tl.brF ?_ | refine Tl.gd_on ?_ | refine Tl.gd3_on ?_) | ((with_reducible first | apply Tl.brC | apply Tl.gdC | apply Tl.gd3C); focus (simp (disch := omega) only [coreA, Int.reduceBEq, base_W3, l3] <;> with_reducible rfl)))
  refine f7_loop (k := k + 299100) (A.grow S5.grow) (by omega) X ?_ (by omega) rfl 3 (i := 0) (by omega) (by omega) (Grow.refl _) fun h6 y1 y2 g6 => ?_
  · intro x hx
    simp only [List.mem_cons, List.not_mem_nil, or_false] at hx
    rcases hx with rfl | rfl | rfl
    · exact ⟨_, Bp.grow gr, b1, by omega, by omega, g1⟩
    · exact ⟨_, Bd.grow gr, b2, by omega, by omega, g2⟩
    · exact ⟨_, Bs.grow gr, b3, by omega, by omega, g3⟩
  have g7 : Grow h h6 := S5.grow.trans g6
  refine Tl.bind (f18c (k := k + 299100) (B.grow g7) hb (by omega) (by omega) (by omega)) ?_
  rintro ⟨r, h8⟩ (⟨m, ov, hg, er, hml, L, S8⟩ | ⟨hg, er, g8⟩)
  · simp only at er S8
    subst er
    repeat (first | (with_reducible apply Tl.val; focus (simp (disch := omega) only [coreA, Int.reduceBEq, base_W3] <;> with_reducible rfl)) | (with_reducible first | refine Tl.brT ?_ | refine Tl.brF ?_ | refine Tl.gd_on ?_ | refine Tl.gd3_on ?_) | ((with_reducible first | apply Tl.brC | apply Tl.gdC | apply Tl.gd3C); focus (simp (disch := omega) only [coreA, Int.reduceBEq, base_W3] <;> with_reducible rfl)))
    refine Tl.bind (f15c (k := k + 299978) (Stt.strs S8 0 rfl) (by omega) (by omega)) ?_
    rintro ⟨r, h9⟩ ⟨p2v, er, S9⟩
    simp only at er S9
    subst er
    have S9 := S8.join S9
    repeat (first | (with_reducible apply Tl.val; focus (simp (disch := omega) only [coreA, Int.reduceBEq, base_W3] <;> with_reducible rfl)) | (with_reducible first | refine Tl.brT ?_ | refine Tl.brF ?_ | refine Tl.gd_on ?_ | refine Tl.gd3_on ?_) | ((with_reducible first | apply Tl.brC | apply Tl.gdC | apply Tl.gd3C); focus (simp (disch := omega) only [coreA, Int.reduceBEq, base_W3] <;> with_reducible rfl)))
    refine Tl.bind (f17c (k := k + 299600) (Stt.strs S9 1 rfl) (by omega) (by omega)) ?_
    rintro ⟨r, h10⟩ ⟨d2v, er, S10⟩
    simp only at er S10
    subst er
    have S10 := S9.join S10
    have cb := convB (B.grow (g7.trans S10.grow))
    have cp := convB (S10.sl1 (f := u8v) 1 rfl)
    have cd := convB (S10.sl1 (f := u8v) 0 rfl)
    simp only [G7_22]
    by_cases q : plainG m = b
    · have hq : ∀ x y, pBin Try.prog Go.BinOp.eql 9 x y (.string (strB b)) (.string (strB (plainG m))) = some (.bool true) := fun x y => by rw [eq_s, q]; simp
      repeat (first | (with_reducible apply Tl.val; focus (simp (disch := omega) only [coreA, Int.reduceBEq, base_W3, cb, cp, cd, hq] <;> with_reducible rfl)) | (with_reducible first | refine Tl.brT ?_ | refine Tl.brF ?_ | refine Tl.gd_on ?_ | refine Tl.gd3_on ?_) | ((with_reducible first | apply Tl.brC | apply Tl.gdC | apply Tl.gd3C); focus (simp (disch := omega) only [coreA, Int.reduceBEq, base_W3, cb, cp, cd, hq] <;> with_reducible rfl)))
      exact ⟨_, rfl, rfl⟩
    · have q2 : dictG m = b := (getT_form hg).resolve_left q
      have hne : ¬ strB b = strB (plainG m) := fun h => q (strB_inj hb (plainG_256 m) h).symm
      have hq : ∀ x y, pBin Try.prog Go.BinOp.eql 9 x y (.string (strB b)) (.string (strB (plainG m))) = some (.bool false) := fun x y => by rw [eq_s]; simp [hne]
      have hq2 : ∀ x y, pBin Try.prog Go.BinOp.eql 9 x y (.string (strB b)) (.string (strB (dictG m))) = some (.bool true) := fun x y => by rw [eq_s, q2]; simp
      repeat (first | (with_reducible apply Tl.val; focus (simp (disch := omega) only [coreA, Int.reduceBEq, base_W3, cb, cp, cd, hq, hq2] <;> with_reducible rfl)) | (with_reducible first | refine Tl.brT ?_ | refine Tl.brF ?_ | refine Tl.gd_on ?_ | refine Tl.gd3_on ?_) | ((with_reducible first | apply Tl.brC | apply Tl.gdC | apply Tl.gd3C); focus (simp (disch := omega) only [coreA, Int.reduceBEq, base_W3, cb, cp, cd, hq, hq2] <;> with_reducible rfl)))
      exact ⟨_, rfl, rfl⟩
  · simp only at er
    subst er
    simp only [G7_19]
    have l0 : ∀ h', pLen Try.prog #[22] (.slice none 0 0) h' = some (.int .i64 0) := fun h' => Sl1.len (show Sl1 Try.prog h' (.slice none 0 0) Value.string ([] : List ByteArray) from .inl ⟨rfl, rfl⟩) u22
    repeat (first | (with_reducible apply Tl.val; focus (simp (disch := omega) only [coreA, Int.reduceBEq, base_W3, l0] <;> with_reducible rfl)) | (with_reducible first | refine Tl.brT ?_ | refine Tl.brF ?_ | refine Tl.gd_on ?_ | refine Tl.gd3_on ?_) | ((with_reducible first | apply Tl.brC | apply Tl.gdC | apply Tl.gd3C); focus (simp (disch := omega) only [coreA, Int.reduceBEq, base_W3, l0] <;> with_reducible rfl)))
    exact ⟨_, rfl, rfl⟩
end Go.Proofs.Ytagcejlclcldcaa.Sh
