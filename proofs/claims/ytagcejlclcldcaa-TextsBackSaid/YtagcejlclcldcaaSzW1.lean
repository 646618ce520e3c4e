/- 'TextsWords' comes to true. -/
import Derived.Test.YtagcejlclcldcaaSzXb
import Derived.Test.YtagcejlclcldcaaBits
set_option linter.unusedVariables false
set_option linter.unusedSimpArgs false
set_option maxRecDepth 100000
namespace Go.Proofs.Ytagcejlclcldcaa.Sh
open Go Go.RowKit Go.Proofs.Ev
theorem base_W1 : type_of% (And.intro @ld3 (And.intro @ld9 (And.intro @ld22 (@Nat.add_zero)))) := And.intro @ld3 (And.intro @ld9 (And.intro @ld22 (@Nat.add_zero)))
theorem str_le {x y : Operand} {a b : ByteArray} (h : ltB b a) : pBin Try.prog .leq 9 x y (.string a) (.string b) = some (.bool false) := by
  have h1 : pBin Try.prog .leq 9 x y (.string a) (.string b) = some (.bool (Op.bytesLess a.toList b.toList || (a.toList == b.toList))) := rfl
  rw [h1, ByteArray.toList_eq, ByteArray.toList_eq, bytesLess_eq]
  have h2 : ¬ a.data.toList < b.data.toList := fun q => ltB_irrefl a (ltB_trans q h)
  have h3 : ¬ a.data.toList = b.data.toList := fun q => by
    have : ltB b a := h
    unfold ltB bytesB at this
    rw [q] at this
    exact List.lt_irrefl _ this
  have h4 : (a.data.toList == b.data.toList) = false := by rw [beq_eq_false_iff_ne]; exact h3
  rw [decide_eq_false h2, h4]
  rfl
theorem f11_loop {β : Type} {inv : Inv} {k : Nat} {Q : β → Prop} {h : AH} {v : Value} {l : List ByteArray} {s : ByteArray} (A : Strs h v l) (hl : l.length ≤ 2 ^ 40) {ke0 : Value → Value → Value → Value → AH → Option β} {kr : Value → AH → Option β} (n : Nat) :
    ∀ {i j : Nat}, i + n = l.length → n < j → (s ∉ l.drop i → ∀ y1 y2, Tl (ke0 v (.string s) y1 y2 h) Q) → (s ∈ l.drop i → Tl (kr (.bool true) h) Q) → Tl (F11_lrlr inv k j v (.string s) (.int .i64 i) h ke0 kr) Q := by
  have hv : ∀ h', pLen Try.prog #[22] v h' = some (.int .i64 l.length) := fun h' => A.len
  induction n with
  | zero =>
    intro i j hi hj hk hr
    obtain ⟨j, rfl⟩ : ∃ q, j = q + 1 := ⟨j - 1, by omega⟩
    simp only [F11_lrlr]
    repeat (first | (with_reducible apply Tl.val; focus (simp (disch := omega) only [coreA, Int.reduceBEq, base_W1, hv] <;> with_reducible rfl)) | (with_reducible first | refine Tl.brT ?_ | refine Tl.brF ?_ | refine Tl.gd_on ?_ | refine Tl.gd3_on ?_) | ((with_reducible first | apply Tl.brC | apply Tl.gdC | apply Tl.gd3C); focus (simp (disch := omega) only [coreA, Int.reduceBEq, base_W1, hv] <;> with_reducible rfl)))
    rw [List.drop_eq_nil_of_le (by omega)] at hk
    exact hk (by simp) _ _
  | succ n ih =>
    intro i j hi hj hk hr
    obtain ⟨j, rfl⟩ : ∃ q, j = q + 1 := ⟨j - 1, by omega⟩
    obtain ⟨x, ex⟩ : ∃ x, l[i]? = some x := ⟨_, List.getElem?_eq_getElem (by omega)⟩
    obtain ⟨b, o, hp, hc⟩ := A.at_ (k := .i64) ex
    have hc := hc h (Grow.refl _)
    have hd : l.drop i = x :: l.drop (i + 1) := by rw [List.drop_eq_getElem?_toList_append, ex]; rfl
    rw [hd] at hk hr
    have e : (i : Int) + 1 = ((i + 1 : Nat) : Int) := by omega
    simp only [F11_lrlr]
    by_cases q : x = s
    · have hq : ∀ ox oy, pBin Try.prog .eql 9 ox oy (.string x) (.string s) = some (.bool true) := fun ox oy => by rw [eq_s]; simp [q]
      repeat (first | (with_reducible apply Tl.val; focus (simp (disch := omega) only [coreA, Int.reduceBEq, base_W1, hv, hp, hc, hq] <;> with_reducible rfl)) | (with_reducible first | refine Tl.brT ?_ | refine Tl.brF ?_ | refine Tl.gd_on ?_ | refine Tl.gd3_on ?_) | ((with_reducible first | apply Tl.brC | apply Tl.gdC | apply Tl.gd3C); focus (simp (disch := omega) only [coreA, Int.reduceBEq, base_W1, hv, hp, hc, hq] <;> with_reducible rfl)))
      exact hr (by rw [q]; exact List.mem_cons_self ..)
    · have hq : ∀ ox oy, pBin Try.prog .eql 9 ox oy (.string x) (.string s) = some (.bool false) := fun ox oy => by rw [eq_s]; simp [q]
      repeat (first | (with_reducible apply Tl.val; focus (simp (disch := omega) only [coreA, Int.reduceBEq, base_W1, hv, hp, hc, hq] <;> with_reducible rfl)) | (with_reducible first | refine Tl.brT ?_ | refine Tl.brF ?_ | refine Tl.gd_on ?_ | refine Tl.gd3_on ?_) | ((with_reducible first | apply Tl.brC | apply Tl.gdC | apply Tl.gd3C); focus (simp (disch := omega) only [coreA, Int.reduceBEq, base_W1, hv, hp, hc, hq] <;> with_reducible rfl)))
      rw [e]
      exact ih (by omega) (by omega) (fun h => hk (fun h2 => (List.mem_cons.1 h2).elim (fun q2 => q q2.symm) h)) (fun h => hr (List.mem_cons_of_mem _ h))
theorem f11c {k : Nat} {h : AH} {v : Value} {l : List ByteArray} {s : ByteArray} (A : Strs h v l) (hl : l.length ≤ 2 ^ 40) (hk : l.length < k) : eInv env (k + 1) (.func 11) #[] #[v, .string s] h = some (.bool (decide (s ∈ l)), h) := by
  have T : Tl (F11 (eInv env k) k v (.string s) h) fun r => r = (.bool (decide (s ∈ l)), h) := by
    unfold F11
    refine f11_loop A hl l.length (i := 0) (by omega) (by omega) (fun h y1 y2 => ⟨_, rfl, ?_⟩) (fun h => ⟨_, rfl, ?_⟩)
    · rw [List.drop_zero] at h
      simp [h]
    · rw [List.drop_zero] at h
      simp [h]
  obtain ⟨r, h1, h2⟩ := T
  rw [F11_call, h1, h2]
theorem f9c {k : Nat} {h : AH} {v : Value} {l : List ByteArray} (A : Strs h v l) (hs : ∀ x ∈ l, x.size ≤ 2 ^ 47) (hl : l.length ≤ 9223372036854775807) (hk : 60 < k) : eInv env (k + 2) (.func 9) #[] #[v] h = some (.bool (lightT 60 600 l), h) := by
  have T : Tl (F9 (eInv env (k + 1)) (k + 1) v h) fun r => r = (.bool (lightT 60 600 l), h) := by
    unfold F9
    have hc := f26c (k := k) A hs hl 60 600 (by omega) (by omega) hk
    have e1 : ((60 : Nat) : Int) = 60 := rfl
    have e2 : ((600 : Nat) : Int) = 600 := rfl
    rw [e1, e2] at hc
    repeat (first | (with_reducible apply Tl.val; focus (simp (disch := omega) only [coreA, Int.reduceBEq, base_W1, hc] <;> with_reducible rfl)) | (with_reducible first | refine Tl.brT ?_ | refine Tl.brF ?_ | refine Tl.gd_on ?_ | refine Tl.gd3_on ?_) | ((with_reducible first | apply Tl.brC | apply Tl.gdC | apply Tl.gd3C); focus (simp (disch := omega) only [coreA, Int.reduceBEq, base_W1, hc] <;> with_reducible rfl)))
    exact ⟨_, rfl, rfl⟩
  obtain ⟨r, h1, h2⟩ := T
  rw [F9_call, h1, h2]
theorem f3_l1 {β : Type} {k : Nat} {Q : β → Prop} {h : AH} {v wv x1 x2 : Value} {l w : List ByteArray} (A : Strs h v l) (W : Strs h wv w) (hl : l.length ≤ 2 ^ 40) (hw : w.length ≤ 2 ^ 40) (hk : l.length < k) (hr : w.Pairwise ltB) (hm : ∀ x ∈ w, x ∈ l) {ke0 : Value → Value → Value → Value → Value → Value → AH → Option β} {kr : Value → AH → Option β} (n : Nat) :
    ∀ {i j : Nat}, i + n = w.length → n < j → (∀ y1 y2, Tl (ke0 v x1 x2 wv y1 y2 h) Q) → Tl (F3_lrlrrrr (eInv env (k + 1)) (k + 1) j v x1 x2 wv (.int .i64 i) h ke0 kr) Q := by
  have hv : ∀ h', pLen Try.prog #[22] wv h' = some (.int .i64 w.length) := fun h' => W.len
  induction n with
  | zero =>
    intro i j hi hj hk
    obtain ⟨j, rfl⟩ : ∃ q, j = q + 1 := ⟨j - 1, by omega⟩
    simp only [F3_lrlrrrr]
    repeat (first | (with_reducible apply Tl.val; focus (simp (disch := omega) only [coreA, Int.reduceBEq, base_W1, hv] <;> with_reducible rfl)) | (with_reducible first | refine Tl.brT ?_ | refine Tl.brF ?_ | refine Tl.gd_on ?_ | refine Tl.gd3_on ?_) | ((with_reducible first | apply Tl.brC | apply Tl.gdC | apply Tl.gd3C); focus (simp (disch := omega) only [coreA, Int.reduceBEq, base_W1, hv] <;> with_reducible rfl)))
    exact hk _ _
  | succ n ih =>
    intro i j hi hj hk
    obtain ⟨j, rfl⟩ : ∃ q, j = q + 1 := ⟨j - 1, by omega⟩
    obtain ⟨x, ex⟩ : ∃ x, w[i]? = some x := ⟨_, List.getElem?_eq_getElem (by omega)⟩
    obtain ⟨b, o, hp, hc⟩ := W.at_ (k := .i64) ex
    have hc := hc h (Grow.refl _)
    have e : (i : Int) + 1 = ((i + 1 : Nat) : Int) := by omega
    have hh := f11c (k := k) (s := x) A hl (by omega)
    rw [decide_eq_true (hm x (List.mem_of_getElem? ex))] at hh
    simp only [F3_lrlrrrr, G3_9]
    by_cases q : i = 0
    · subst q
      have hc0 : ((0 : Nat) : Int) = 0 := rfl
      rw [hc0] at hp ⊢
      repeat (first | (with_reducible apply Tl.val; focus (simp (disch := omega) only [coreA, Int.reduceBEq, base_W1, hv, hp, hc, hh] <;> with_reducible rfl)) | (with_reducible first | refine Tl.brT ?_ | refine Tl.brF ?_ | refine Tl.gd_on ?_ | refine Tl.gd3_on ?_) | ((with_reducible first | apply Tl.brC | apply Tl.gdC | apply Tl.gd3C); focus (simp (disch := omega) only [coreA, Int.reduceBEq, base_W1, hv, hp, hc, hh] <;> with_reducible rfl)))
      exact ih (i := 1) (by omega) (by omega) hk
    · obtain ⟨y, ey⟩ : ∃ x, w[i - 1]? = some x := ⟨_, List.getElem?_eq_getElem (by omega)⟩
      obtain ⟨b2, o2, hp2, hc2⟩ := W.at_ (k := .i64) ey
      have hc2 := hc2 h (Grow.refl _)
      rw [show ((i - 1 : Nat) : Int) = (i : Int) - 1 by omega] at hp2
      have hlt : ltB y x := by
        obtain ⟨l1, rfl⟩ := List.getElem?_eq_some_iff.1 ey
        obtain ⟨l2, rfl⟩ := List.getElem?_eq_some_iff.1 ex
        exact List.pairwise_iff_getElem.1 hr _ _ l1 l2 (by omega)
      have hq : ∀ ox oy, pBin Try.prog .leq 9 ox oy (.string x) (.string y) = some (.bool false) := fun ox oy => str_le hlt
      repeat (first | (with_reducible apply Tl.val; focus (simp (disch := omega) only [coreA, Int.reduceBEq, base_W1, hv, hp, hc, hp2, hc2, hq, hh] <;> with_reducible rfl)) | (with_reducible first | refine Tl.brT ?_ | refine Tl.brF ?_ | refine Tl.gd_on ?_ | refine Tl.gd3_on ?_) | ((with_reducible first | apply Tl.brC | apply Tl.gdC | apply Tl.gd3C); focus (simp (disch := omega) only [coreA, Int.reduceBEq, base_W1, hv, hp, hc, hp2, hc2, hq, hh] <;> with_reducible rfl)))
      rw [e]
      exact ih (by omega) (by omega) hk
theorem f3_l2 {β : Type} {k : Nat} {Q : β → Prop} {h : AH} {v wv x1 x2 : Value} {l w : List ByteArray} (A : Strs h v l) (W : Strs h wv w) (hl : l.length ≤ 2 ^ 40) (hw : w.length ≤ 2 ^ 40) (hk : w.length < k) (hm : ∀ x ∈ l, x ∈ w) {ke0 : Value → Value → Value → Value → Value → Value → AH → Option β} {kr : Value → AH → Option β} (n : Nat) :
    ∀ {i j : Nat}, i + n = l.length → n < j → (∀ y1 y2, Tl (ke0 v x1 x2 wv y1 y2 h) Q) → Tl (F3_lrlrrrrr (eInv env (k + 1)) (k + 1) j v x1 x2 wv (.int .i64 i) h ke0 kr) Q := by
  have hv : ∀ h', pLen Try.prog #[22] v h' = some (.int .i64 l.length) := fun h' => A.len
  induction n with
  | zero =>
    intro i j hi hj hk
    obtain ⟨j, rfl⟩ : ∃ q, j = q + 1 := ⟨j - 1, by omega⟩
    simp only [F3_lrlrrrrr]
    repeat (first | (with_reducible apply Tl.val; focus (simp (disch := omega) only [coreA, Int.reduceBEq, base_W1, hv] <;> with_reducible rfl)) | (with_reducible first | refine Tl.brT ?_ | refine Tl.brF ?_ | refine Tl.gd_on ?_ | refine Tl.gd3_on ?_) | ((with_reducible first | apply Tl.brC | apply Tl.gdC | apply Tl.gd3C); focus (simp (disch := omega) only [coreA, Int.reduceBEq, base_W1, hv] <;> with_reducible rfl)))
    exact hk _ _
  | succ n ih =>
    intro i j hi hj hk
    obtain ⟨j, rfl⟩ : ∃ q, j = q + 1 := ⟨j - 1, by omega⟩
    obtain ⟨x, ex⟩ : ∃ x, l[i]? = some x := ⟨_, List.getElem?_eq_getElem (by omega)⟩
    obtain ⟨b, o, hp, hc⟩ := A.at_ (k := .i64) ex
    have hc := hc h (Grow.refl _)
    have e : (i : Int) + 1 = ((i + 1 : Nat) : Int) := by omega
    have hh := f11c (k := k) (s := x) W hw (by omega)
    rw [decide_eq_true (hm x (List.mem_of_getElem? ex))] at hh
    simp only [F3_lrlrrrrr]
    repeat (first | (with_reducible apply Tl.val; focus (simp (disch := omega) only [coreA, Int.reduceBEq, base_W1, hv, hp, hc, hh] <;> with_reducible rfl)) | (with_reducible first | refine Tl.brT ?_ | refine Tl.brF ?_ | refine Tl.gd_on ?_ | refine Tl.gd3_on ?_) | ((with_reducible first | apply Tl.brC | apply Tl.gdC | apply Tl.gd3C); focus (simp (disch := omega) only [coreA, Int.reduceBEq, base_W1, hv, hp, hc, hh] <;> with_reducible rfl)))
    rw [e]
    exact ih (by omega) (by omega) hk
theorem f13e {k : Nat} {n m : Int} (hm : 1 ≤ m) (hm2 : m ≤ 2 ^ 40) (h : AH) : ∃ p : Nat, (p : Int) < m ∧ eInv env (k + 1) (.func 13) #[] #[.int .i64 n, .int .i64 m] h = some (.int .i64 (p : Int), h) := by
  have b1 := Int.tmod_lt_of_pos n (show 0 < m by omega)
  have b2 := Int.lt_tmod_of_pos n (show 0 < m by omega)
  have hr : ∀ x y : Operand, pBin Try.prog .rem 3 x y (.int .i64 n) (.int .i64 m) = some (.int .i64 (n.tmod m)) := fun x y => bin_rem (by omega)
  generalize hz : n.tmod m = z at *
  rw [F13_call]
  by_cases q : z < 0
  · refine ⟨(z + m).toNat, by omega, ?_⟩
    have T : Tl (F13 (eInv env k) k (.int .i64 n) (.int .i64 m) h) fun r => r = (.int .i64 ((z + m).toNat : Int), h) := by
      unfold F13 F13_rlrrr
      repeat (first | (with_reducible apply Tl.val; focus (simp (disch := omega) only [coreA, Int.reduceBEq, base_W1, hr] <;> with_reducible rfl)) | (with_reducible first | refine Tl.brT ?_ | refine Tl.brF ?_ | refine Tl.gd_on ?_ | refine Tl.gd3_on ?_) | ((with_reducible first | apply Tl.brC | apply Tl.gdC | apply Tl.gd3C); focus (simp (disch := omega) only [coreA, Int.reduceBEq, base_W1, hr] <;> with_reducible rfl)))
      exact ⟨_, rfl, by rw [show (((z + m).toNat : Nat) : Int) = z + m by omega]⟩
    obtain ⟨r, h1, h2⟩ := T
    rw [h1, h2]
  · refine ⟨z.toNat, by omega, ?_⟩
    have T : Tl (F13 (eInv env k) k (.int .i64 n) (.int .i64 m) h) fun r => r = (.int .i64 (z.toNat : Int), h) := by
      unfold F13 F13_rlrrr
      repeat (first | (with_reducible apply Tl.val; focus (simp (disch := omega) only [coreA, Int.reduceBEq, base_W1, hr] <;> with_reducible rfl)) | (with_reducible first | refine Tl.brT ?_ | refine Tl.brF ?_ | refine Tl.gd_on ?_ | refine Tl.gd3_on ?_) | ((with_reducible first | apply Tl.brC | apply Tl.gdC | apply Tl.gd3C); focus (simp (disch := omega) only [coreA, Int.reduceBEq, base_W1, hr] <;> with_reducible rfl)))
      exact ⟨_, rfl, by rw [show ((z.toNat : Nat) : Int) = z by omega]⟩
    obtain ⟨r, h1, h2⟩ := T
    rw [h1, h2]
theorem srows_set (l : List ByteArray) (i : Nat) (x : ByteArray) : (srows l).set i [.string x] = srows (l.set i x) := by simp [srows, List.map_set]
/-- A copy with two places changed for each other has the same texts. -/
theorem swap_mem {l : List ByteArray} {i j : Nat} {x y : ByteArray} (hi : l[i]? = some x) (hj : l[j]? = some y) : ∀ z, z ∈ (l.set i y).set j x ↔ z ∈ l := by
  intro z
  have hil := (List.getElem?_eq_some_iff.1 hi).1
  have hjl := (List.getElem?_eq_some_iff.1 hj).1
  constructor
  · intro h
    rcases mem_set_cases h with rfl | ⟨p, _, hp⟩
    · exact List.mem_of_getElem? hi
    · have := List.mem_of_getElem? hp
      rcases mem_set_cases this with rfl | ⟨p, _, hp⟩
      · exact List.mem_of_getElem? hj
      · exact List.mem_of_getElem? hp
  · intro h
    obtain ⟨p, hp⟩ := List.mem_iff_getElem?.1 h
    by_cases q1 : p = i
    · subst q1
      rw [hi] at hp
      cases hp
      exact List.mem_iff_getElem?.2 ⟨j, by rw [List.getElem?_set_self (by simpa using hjl)]⟩
    · by_cases q2 : p = j
      · subst q2
        rw [hj] at hp
        cases hp
        refine List.mem_iff_getElem?.2 ⟨i, ?_⟩
        rw [List.getElem?_set_ne (fun h => q1 h), List.getElem?_set_self hil]
      · refine List.mem_iff_getElem?.2 ⟨p, ?_⟩
        rw [List.getElem?_set_ne (fun h => q2 h.symm), List.getElem?_set_ne (fun h => q1 h.symm), hp]
theorem f3 {k : Nat} {h : AH} {v : Value} {l : List ByteArray} (A : Strs h v l) (hs : ∀ x ∈ l, x.size ≤ 2 ^ 47) (hl : l.length ≤ 9223372036854775807) (a b : Int) :
    Tl (F3 (eInv env (k + 2000)) (k + 2000) v (.int .i64 a) (.int .i64 b) h) fun r => r.1 = .bool true := by
  unfold F3
  have hlv := lives_call (k := k + 1999) (h := h)
  have hli := f9c (k := k + 1998) A hs hl (by omega)
  have hv : ∀ h', pLen Try.prog #[22] v h' = some (.int .i64 l.length) := fun h' => A.len
  have hsm : ∀ x ∈ l, x.size ≤ maxLen := fun x hx => by have := hs x hx; unfold maxLen; omega
  simp only [G3_3]
  cases q1 : lightT 60 600 l
  · rw [q1] at hli
    repeat (first | (with_reducible apply Tl.val; focus (simp (disch := omega) only [coreA, Int.reduceBEq, base_W1, hlv, hli] <;> with_reducible rfl)) | (with_reducible first | refine Tl.brT ?_ | refine Tl.brF ?_ | refine Tl.gd_on ?_ | refine Tl.gd3_on ?_) | ((with_reducible first | apply Tl.brC | apply Tl.gdC | apply Tl.gd3C); focus (simp (disch := omega) only [coreA, Int.reduceBEq, base_W1, hlv, hli] <;> with_reducible rfl)))
    exact ⟨_, rfl, rfl⟩
  rw [q1] at hli
  by_cases q0 : l.length = 0
  · repeat (first | (with_reducible apply Tl.val; focus (simp (disch := omega) only [coreA, Int.reduceBEq, base_W1, hlv, hli, hv] <;> with_reducible rfl)) | (with_reducible first | refine Tl.brT ?_ | refine Tl.brF ?_ | refine Tl.gd_on ?_ | refine Tl.gd3_on ?_) | ((with_reducible first | apply Tl.brC | apply Tl.gdC | apply Tl.gd3C); focus (simp (disch := omega) only [coreA, Int.reduceBEq, base_W1, hlv, hli, hv] <;> with_reducible rfl)))
    exact ⟨_, rfl, rfl⟩
  have h60 : l.length ≤ 60 := by
    unfold lightT at q1
    rw [Bool.and_eq_true, decide_eq_true_eq] at q1
    exact q1.1
  repeat (first | (with_reducible apply Tl.val; focus (simp (disch := omega) only [coreA, Int.reduceBEq, base_W1, hlv, hli, hv] <;> with_reducible rfl)) | (with_reducible first | refine Tl.brT ?_ | refine Tl.brF ?_ | refine Tl.gd_on ?_ | refine Tl.gd3_on ?_) | ((with_reducible first | apply Tl.brC | apply Tl.gdC | apply Tl.gd3C); focus (simp (disch := omega) only [coreA, Int.reduceBEq, base_W1, hlv, hli, hv] <;> with_reducible rfl)))
  have hwl := wordsB_len l
  refine Tl.bind (f10c (k := k + 1997) (Stt.init h) A hsm (by omega) (by omega)) ?_
  rintro ⟨wv, h1⟩ S1
  simp only at S1
  refine f3_l1 (k := k + 1999) (A.grow S1.grow) (Stt.strs S1 0 rfl) (by omega) (by omega) (by omega) (wordsB_rise l) (fun x hx => wordsB_mem.1 hx) (wordsB l).length (i := 0) (by omega) (by omega) fun y1 y2 => ?_
  refine f3_l2 (k := k + 1999) (A.grow S1.grow) (Stt.strs S1 0 rfl) (by omega) (by omega) (by omega) (fun x hx => wordsB_mem.2 hx) l.length (i := 0) (by omega) (by omega) fun y1 y2 => ?_
  refine Tl.bind (f12c (k := k + 1999) S1 (A.grow S1.grow) (by omega)) ?_
  rintro ⟨mv, h2⟩ S2
  simp only at S2
  obtain ⟨ia, hia, ea⟩ := f13e (k := k + 1999) (n := a) (m := l.length) (by omega) (by omega) h2
  obtain ⟨x, hx⟩ : ∃ x, l[ia]? = some x := ⟨_, List.getElem?_eq_getElem (by omega)⟩
  obtain ⟨b1, o1, hp1, hc1⟩ := A.at_ (k := .i64) hx
  have hc1 := hc1 h2 S2.grow
  repeat (first | (with_reducible apply Tl.val; focus (simp (disch := omega) only [coreA, Int.reduceBEq, base_W1, hv, ea, hp1, hc1] <;> with_reducible rfl)) | (with_reducible first | refine Tl.brT ?_ | refine Tl.brF ?_ | refine Tl.gd_on ?_ | refine Tl.gd3_on ?_) | ((with_reducible first | apply Tl.brC | apply Tl.gdC | apply Tl.gd3C); focus (simp (disch := omega) only [coreA, Int.reduceBEq, base_W1, hv, ea, hp1, hc1] <;> with_reducible rfl)))
  refine Tl.push S2 0 rfl app22 (bs22 _ _) rfl rfl (by rw [srows_len]; omega) fun m2 h3 S3 => ?_
  have S3 : Stt Try.prog h.n h h3 [] [(m2, 1, srows (l ++ [x])), (wv, 1, srows (wordsB l))] := by
    rw [srows_app]; exact S3
  obtain ⟨ib, hib, eb⟩ := f13e (k := k + 1999) (n := b) (m := l.length) (by omega) (by omega) h3
  obtain ⟨y, hy⟩ : ∃ y, (l ++ [x])[ib]? = some y := ⟨_, List.getElem?_eq_getElem (by simp; omega)⟩
  have hz : (l ++ [x])[l.length]? = some x := by simp
  obtain ⟨ba, ema, hma⟩ := S3.idx (t := 22) 0 rfl (kd := .i64) (j := ib) (by rw [srows_len]; simp; omega) u22 sz9
  obtain ⟨bb, emb, hmb⟩ := S3.idx (t := 22) 0 rfl (kd := .i64) (j := l.length) (by rw [srows_len]; simp) u22 sz9
  obtain ⟨_, _, hpa, hca⟩ := (Stt.strs S3 0 rfl).at_ (k := .i64) hy
  obtain ⟨_, _, hpb, hcb⟩ := (Stt.strs S3 0 rfl).at_ (k := .i64) hz
  rw [hma] at hpa
  rw [hmb] at hpb
  cases hpa
  cases hpb
  have hca := hca h3 (Grow.refl _)
  have hcb := hcb h3 (Grow.refl _)
  repeat (first | (with_reducible apply Tl.val; focus (simp (disch := omega) only [coreA, Int.reduceBEq, base_W1, hv, eb, hma, hmb, hca, hcb] <;> with_reducible rfl)) | (with_reducible first | refine Tl.brT ?_ | refine Tl.brF ?_ | refine Tl.gd_on ?_ | refine Tl.gd3_on ?_) | ((with_reducible first | apply Tl.brC | apply Tl.gdC | apply Tl.gd3C); focus (simp (disch := omega) only [coreA, Int.reduceBEq, base_W1, hv, eb, hma, hmb, hca, hcb] <;> with_reducible rfl)))
  refine Tl.setAt S3 0 rfl ema (by rw [srows_len]; simp; omega) rfl sz9 rfl fun h4 S4 => ?_
  repeat (first | (with_reducible apply Tl.val; focus (simp (disch := omega) only [coreA, Int.reduceBEq, base_W1, hmb] <;> with_reducible rfl)) | (with_reducible first | refine Tl.brT ?_ | refine Tl.brF ?_ | refine Tl.gd_on ?_ | refine Tl.gd3_on ?_) | ((with_reducible first | apply Tl.brC | apply Tl.gdC | apply Tl.gd3C); focus (simp (disch := omega) only [coreA, Int.reduceBEq, base_W1, hmb] <;> with_reducible rfl)))
  refine Tl.setAt S4 0 rfl emb (by rw [List.length_set, srows_len]; simp) rfl sz9 rfl fun h5 S5 => ?_
  have S5 : Stt Try.prog h.n h h5 [] [(m2, 1, srows (((l ++ [x]).set ib x).set l.length y)), (wv, 1, srows (wordsB l))] := by
    rw [← srows_set, ← srows_set]; exact S5
  refine Tl.chk (by simp [hv, sameO_some, sameV_int]) ?_
  simp only [G3_19]
  have hmem : ∀ z, z ∈ ((l ++ [x]).set ib x).set l.length y ↔ z ∈ l := fun z => by
    rw [swap_mem hy hz z, List.mem_append, List.mem_singleton]
    constructor
    · rintro (h | rfl)
      · exact h
      · exact List.mem_of_getElem? hx
    · exact .inl
  have hml : (((l ++ [x]).set ib x).set l.length y).length = l.length + 1 := by simp
  refine Tl.bind (f10c (k := k + 1997) S5 (Stt.strs S5 0 rfl) (fun s hs' => hsm s ((hmem s).1 hs')) (by omega) (by omega)) ?_
  rintro ⟨w2, h6⟩ S6
  simp only at S6
  rw [wordsB_of hmem] at S6
  have s1 := f14c (k := k + 1999) (Stt.strs S6 0 rfl) (Stt.strs S6 2 rfl) (by omega) (by omega) (by omega)
  rw [decide_eq_true rfl] at s1
  repeat (first | (with_reducible apply Tl.val; focus (simp (disch := omega) only [coreA, Int.reduceBEq, base_W1, s1] <;> with_reducible rfl)) | (with_reducible first | refine Tl.brT ?_ | refine Tl.brF ?_ | refine Tl.gd_on ?_ | refine Tl.gd3_on ?_) | ((with_reducible first | apply Tl.brC | apply Tl.gdC | apply Tl.gd3C); focus (simp (disch := omega) only [coreA, Int.reduceBEq, base_W1, s1] <;> with_reducible rfl)))
  refine Tl.bind (f10c (k := k + 1997) S6 (Stt.strs S6 2 rfl) (fun s hs' => hsm s (wordsB_mem.1 hs')) (by omega) (by omega)) ?_
  rintro ⟨w3, h7⟩ S7
  simp only at S7
  rw [wordsB_words] at S7
  have s2 := f14c (k := k + 1999) (Stt.strs S7 0 rfl) (Stt.strs S7 3 rfl) (by omega) (by omega) (by omega)
  rw [decide_eq_true rfl] at s2
  repeat (first | (with_reducible apply Tl.val; focus (simp (disch := omega) only [coreA, Int.reduceBEq, base_W1, s2] <;> with_reducible rfl)) | (with_reducible first | refine Tl.brT ?_ | refine Tl.brF ?_ | refine Tl.gd_on ?_ | refine Tl.gd3_on ?_) | ((with_reducible first | apply Tl.brC | apply Tl.gdC | apply Tl.gd3C); focus (simp (disch := omega) only [coreA, Int.reduceBEq, base_W1, s2] <;> with_reducible rfl)))
  exact ⟨_, rfl, rfl⟩
end Go.Proofs.Ytagcejlclcldcaa.Sh
