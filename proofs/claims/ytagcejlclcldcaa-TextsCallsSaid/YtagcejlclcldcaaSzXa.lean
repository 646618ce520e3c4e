/- Texts in slices: light ones, own ones, held against each other. -/
import Derived.Test.YtagcejlclcldcaaSzF
import Derived.Test.YtagcejlclcldcaaSzT
import Derived.Test.YtagcejlclcldcaaOrdC
import Derived.Test.YtagcejlclcldcaaEvC
set_option linter.unusedVariables false
set_option linter.unusedSimpArgs false
set_option maxRecDepth 100000
namespace Go.Proofs.Ytagcejlclcldcaa.Sh
open Go Go.RowKit Go.Proofs.Ev
def Strs (h : AH) (v : Value) (l : List ByteArray) : Prop := Sl1 Try.prog h v Value.string l
def srows (l : List ByteArray) : List (List Value) := l.map fun x => [Value.string x]
theorem srows_len (l : List ByteArray) : (srows l).length = l.length := List.length_map ..
theorem one_srows (l : List ByteArray) : (srows l).flatten.all oneCell = true := flat_one Value.string (fun _ => rfl) l
theorem srows_app (l m : List ByteArray) : srows (l ++ m) = srows l ++ srows m := List.map_append
theorem srows_flat (l : List ByteArray) : (srows l).flatten = l.map Value.string := by
  induction l with
  | nil => rfl
  | cons x l ih => simp only [srows, List.map_cons, List.flatten_cons] at ih ⊢; rw [ih]; rfl
theorem srows_wide (l : List ByteArray) : ∀ r ∈ srows l, r.length = 1 := fun r hr => by
  obtain ⟨x, _, rfl⟩ := List.mem_map.1 hr
  rfl
theorem Strs.grow {h h' : AH} {v : Value} {l : List ByteArray} (S : Strs h v l) (g : Grow h h') : Strs h' v l := Sl1.grow S g
theorem Strs.len {h h' : AH} {v : Value} {l : List ByteArray} (S : Strs h v l) : pLen Try.prog #[22] v h' = some (.int .i64 l.length) := Sl1.len S u22
theorem Strs.at_ {h : AH} {v : Value} {l : List ByteArray} (S : Strs h v l) {k : IntKind} {i : Nat} {x : ByteArray} (hi : l[i]? = some x) :
    ∃ b o, pIndexAddr Try.prog 22 v (.int k i) = some (.pointer (some ⟨b, o, none⟩)) ∧ ∀ h', Grow h h' → h'.cell b o = some (.string x) := Sl1.at_ S hi u22 sz9
theorem Stt.strs {n0 : Nat} {h0 h : AH} {L : List (Nat × AO)} {O : List OS} (S : Stt Try.prog n0 h0 h L O) (i : Nat) {v : Value} {l : List ByteArray} (hi : O[i]? = some (v, 1, srows l)) : Strs h v l := S.slV i hi
theorem base_Xa : type_of% (And.intro @ld3 (And.intro @ld9 (And.intro @ld22 (@Nat.add_zero)))) := And.intro @ld3 (And.intro @ld9 (And.intro @ld22 (@Nat.add_zero)))
theorem len_s (s : ByteArray) (h : AH) : pLen Try.prog #[9] (.string s) h = some (.int .i64 s.size) := len_string u9
theorem bsS0 (h : AH) : pBuildSlice Try.prog 22 0 #[] h = some (.slice (some ⟨h.n, 0, none⟩) 0 0, h.alloc (.cells [] 9 true)) := by kernel_rfl
theorem eq_s {x y : Operand} {a b : ByteArray} : pBin Try.prog .eql 9 x y (.string a) (.string b) = some (.bool (decide (a = b))) := bin_eql_string
theorem ne_s {x y : Operand} {a b : ByteArray} : pBin Try.prog .neq 9 x y (.string a) (.string b) = some (.bool (!decide (a = b))) := bin_neq_string
/-- What all texts' bytes together are. -/
def total (l : List ByteArray) : Nat := (l.map (·.size)).sum
theorem total_cons (x : ByteArray) (l : List ByteArray) : total (x :: l) = x.size + total l := by simp [total]
theorem total_mem {l : List ByteArray} {x : ByteArray} (h : x ∈ l) : x.size ≤ total l := by
  induction l with
  | nil => cases h
  | cons y l ih =>
    rw [total_cons]
    rcases List.mem_cons.1 h with rfl | h
    · omega
    · have := ih h; omega
def lightT (m b : Nat) (l : List ByteArray) : Bool := decide (l.length ≤ m) && decide (total l ≤ b)
theorem f26_loop {β : Type} {inv : Inv} {k : Nat} {Q : β → Prop} {h : AH} {v : Value} {l : List ByteArray} {b : Nat} (A : Strs h v l) (hl : l.length ≤ 2 ^ 40) (hs : ∀ x ∈ l, x.size ≤ 2 ^ 47) (hb : b ≤ 2 ^ 40) {ke0 : Value → Value → Value → Value → Value → AH → Option β} {kr : Value → AH → Option β} (n : Nat) :
    ∀ {i j a : Nat}, i + n = l.length → n < j → a ≤ b →
      (a + total (l.drop i) ≤ b → ∀ y1 y2 y3, Tl (ke0 v (.int .i64 b) y1 y2 y3 h) Q) → (b < a + total (l.drop i) → Tl (kr (.bool false) h) Q) →
      Tl (F26_lrlrrr inv k j v (.int .i64 b) (.int .i64 a) (.int .i64 i) h ke0 kr) Q := by
  have hv : ∀ h', pLen Try.prog #[22] v h' = some (.int .i64 l.length) := fun h' => A.len
  induction n with
  | zero =>
    intro i j a hi hj ha hk hr
    obtain ⟨j, rfl⟩ : ∃ q, j = q + 1 := ⟨j - 1, by omega⟩
    simp only [F26_lrlrrr]
    repeat (first | (with_reducible apply Tl.val; focus (simp (disch := omega) only [coreA, Int.reduceBEq, base_Xa, hv] <;> with_reducible rfl)) | (with_reducible first | refine Tl.brT ?_ | refine Tl.brF ?_ | refine Tl.gd_on ?_ | refine Tl.gd3_on ?_) | ((with_reducible first | apply Tl.brC | apply Tl.gdC | apply Tl.gd3C); focus (simp (disch := omega) only [coreA, Int.reduceBEq, base_Xa, hv] <;> with_reducible rfl)))
    rw [List.drop_eq_nil_of_le (by omega)] at hk
    exact hk (by simpa [total] using ha) _ _ _
  | succ n ih =>
    intro i j a hi hj ha hk hr
    obtain ⟨j, rfl⟩ : ∃ q, j = q + 1 := ⟨j - 1, by omega⟩
    obtain ⟨x, ex⟩ : ∃ x, l[i]? = some x := ⟨_, List.getElem?_eq_getElem (by omega)⟩
    obtain ⟨bb, o, hp, hc⟩ := A.at_ (k := .i64) ex
    have hc := hc h (Grow.refl _)
    have hx := hs x (List.mem_of_getElem? ex)
    have hd : l.drop i = x :: l.drop (i + 1) := by
      rw [List.drop_eq_getElem?_toList_append, ex]; rfl
    rw [hd, total_cons] at hk hr
    simp only [F26_lrlrrr]
    have e : (i : Int) + 1 = ((i + 1 : Nat) : Int) := by omega
    have e2 : (a : Int) + (x.size : Int) = ((a + x.size : Nat) : Int) := by omega
    by_cases q : a + x.size ≤ b
    · repeat (first | (with_reducible apply Tl.val; focus (simp (disch := omega) only [coreA, Int.reduceBEq, base_Xa, hv, hp, hc, len_s] <;> with_reducible rfl)) | (with_reducible first | refine Tl.brT ?_ | refine Tl.brF ?_ | refine Tl.gd_on ?_ | refine Tl.gd3_on ?_) | ((with_reducible first | apply Tl.brC | apply Tl.gdC | apply Tl.gd3C); focus (simp (disch := omega) only [coreA, Int.reduceBEq, base_Xa, hv, hp, hc, len_s] <;> with_reducible rfl)))
      rw [e, e2]
      exact ih (by omega) (by omega) q (fun h => hk (by omega)) (fun h => hr (by omega))
    · repeat (first | (with_reducible apply Tl.val; focus (simp (disch := omega) only [coreA, Int.reduceBEq, base_Xa, hv, hp, hc, len_s] <;> with_reducible rfl)) | (with_reducible first | refine Tl.brT ?_ | refine Tl.brF ?_ | refine Tl.gd_on ?_ | refine Tl.gd3_on ?_) | ((with_reducible first | apply Tl.brC | apply Tl.gdC | apply Tl.gd3C); focus (simp (disch := omega) only [coreA, Int.reduceBEq, base_Xa, hv, hp, hc, len_s] <;> with_reducible rfl)))
      exact hr (by omega)
theorem f26c {k : Nat} {h : AH} {v : Value} {l : List ByteArray} (A : Strs h v l) (hs : ∀ x ∈ l, x.size ≤ 2 ^ 47) (hl : l.length ≤ 9223372036854775807) (m b : Nat) (hm : m ≤ 2 ^ 40) (hb : b ≤ 2 ^ 40) (hk : m < k) :
    eInv env (k + 1) (.func 26) #[] #[v, .int .i64 m, .int .i64 b] h = some (.bool (lightT m b l), h) := by
  have T : Tl (F26 (eInv env k) k v (.int .i64 m) (.int .i64 b) h) fun r => r = (.bool (lightT m b l), h) := by
    unfold F26 lightT
    have hv : ∀ h', pLen Try.prog #[22] v h' = some (.int .i64 l.length) := fun h' => A.len
    by_cases q : l.length ≤ m
    · repeat (first | (with_reducible apply Tl.val; focus (simp (disch := omega) only [coreA, Int.reduceBEq, base_Xa, hv] <;> with_reducible rfl)) | (with_reducible first | refine Tl.brT ?_ | refine Tl.brF ?_ | refine Tl.gd_on ?_ | refine Tl.gd3_on ?_) | ((with_reducible first | apply Tl.brC | apply Tl.gdC | apply Tl.gd3C); focus (simp (disch := omega) only [coreA, Int.reduceBEq, base_Xa, hv] <;> with_reducible rfl)))
      refine f26_loop A (by omega) hs hb l.length (i := 0) (a := 0) (by omega) (by omega) (by omega) (fun h y1 y2 y3 => ⟨_, rfl, ?_⟩) (fun h => ⟨_, rfl, ?_⟩)
      · simp only [List.drop_zero, Nat.zero_add] at h
        simp [q, h]
      · simp only [List.drop_zero, Nat.zero_add] at h
        simp [q]; omega
    · repeat (first | (with_reducible apply Tl.val; focus (simp (disch := omega) only [coreA, Int.reduceBEq, base_Xa, hv] <;> with_reducible rfl)) | (with_reducible first | refine Tl.brT ?_ | refine Tl.brF ?_ | refine Tl.gd_on ?_ | refine Tl.gd3_on ?_) | ((with_reducible first | apply Tl.brC | apply Tl.gdC | apply Tl.gd3C); focus (simp (disch := omega) only [coreA, Int.reduceBEq, base_Xa, hv] <;> with_reducible rfl)))
      exact ⟨_, rfl, by simp [q]⟩
  obtain ⟨r, h1, h2⟩ := T
  rw [F26_call, h1, h2]
theorem sttS {n0 : Nat} {h0 h : AH} {L : List (Nat × AO)} {O : List OS} (S : Stt Try.prog n0 h0 h L O) : Stt Try.prog n0 h0 (h.alloc (.cells [] 9 true)) L ((.slice (some ⟨h.n, 0, none⟩) 0 0, 1, []) :: O) := by
  have X : OwnB Try.prog h.n (h.alloc (.cells [] 9 true)) (.slice (some ⟨h.n, 0, none⟩) 0 0) 1 [] :=
    .inr ⟨h.n, Nat.le_refl _, ⟨rfl, ⟨⟨[], 9, AH.get_alloc_new _ _, fun hq => absurd rfl hq⟩, fun r hr => by cases hr⟩, szOk_of (AH.get_alloc_new _ _) sz9⟩⟩
  exact S.gain (Grow.alloc h _) X
theorem f14_loop {β : Type} {inv : Inv} {k : Nat} {Q : β → Prop} {h : AH} {v w : Value} {l m : List ByteArray} (A : Strs h v l) (B : Strs h w m) (hlm : l.length = m.length) (hl : l.length ≤ 2 ^ 40) {ke0 : Value → Value → Value → Value → AH → Option β} {kr : Value → AH → Option β} (n : Nat) :
    ∀ {i j : Nat}, i + n = l.length → n < j → (l.drop i = m.drop i → ∀ y1 y2, Tl (ke0 v w y1 y2 h) Q) → (l.drop i ≠ m.drop i → Tl (kr (.bool false) h) Q) → Tl (F14_lrlrr inv k j v w (.int .i64 i) h ke0 kr) Q := by
  have hv : ∀ h', pLen Try.prog #[22] v h' = some (.int .i64 l.length) := fun h' => A.len
  induction n with
  | zero =>
    intro i j hi hj hk hr
    obtain ⟨j, rfl⟩ : ∃ q, j = q + 1 := ⟨j - 1, by omega⟩
    simp only [F14_lrlrr]
    repeat (first | (with_reducible apply Tl.val; focus (simp (disch := omega) only [coreA, Int.reduceBEq, base_Xa, hv] <;> with_reducible rfl)) | (with_reducible first | refine Tl.brT ?_ | refine Tl.brF ?_ | refine Tl.gd_on ?_ | refine Tl.gd3_on ?_) | ((with_reducible first | apply Tl.brC | apply Tl.gdC | apply Tl.gd3C); focus (simp (disch := omega) only [coreA, Int.reduceBEq, base_Xa, hv] <;> with_reducible rfl)))
    rw [List.drop_eq_nil_of_le (by omega), List.drop_eq_nil_of_le (by omega)] at hk
    exact hk rfl _ _
  | succ n ih =>
    intro i j hi hj hk hr
    obtain ⟨j, rfl⟩ : ∃ q, j = q + 1 := ⟨j - 1, by omega⟩
    obtain ⟨x, ex⟩ : ∃ x, l[i]? = some x := ⟨_, List.getElem?_eq_getElem (by omega)⟩
    obtain ⟨y, ey⟩ : ∃ x, m[i]? = some x := ⟨_, List.getElem?_eq_getElem (by omega)⟩
    obtain ⟨b1, o1, hp1, hc1⟩ := A.at_ (k := .i64) ex
    obtain ⟨b2, o2, hp2, hc2⟩ := B.at_ (k := .i64) ey
    have hc1 := hc1 h (Grow.refl _)
    have hc2 := hc2 h (Grow.refl _)
    have hd1 : l.drop i = x :: l.drop (i + 1) := by rw [List.drop_eq_getElem?_toList_append, ex]; rfl
    have hd2 : m.drop i = y :: m.drop (i + 1) := by rw [List.drop_eq_getElem?_toList_append, ey]; rfl
    rw [hd1, hd2] at hk hr
    simp only [F14_lrlrr]
    have e : (i : Int) + 1 = ((i + 1 : Nat) : Int) := by omega
    by_cases q : x = y
    · have hq : ∀ ox oy, pBin Try.prog .neq 9 ox oy (.string x) (.string y) = some (.bool false) := fun ox oy => by rw [ne_s]; simp [q]
      repeat (first | (with_reducible apply Tl.val; focus (simp (disch := omega) only [coreA, Int.reduceBEq, base_Xa, hv, hp1, hc1, hp2, hc2, hq] <;> with_reducible rfl)) | (with_reducible first | refine Tl.brT ?_ | refine Tl.brF ?_ | refine Tl.gd_on ?_ | refine Tl.gd3_on ?_) | ((with_reducible first | apply Tl.brC | apply Tl.gdC | apply Tl.gd3C); focus (simp (disch := omega) only [coreA, Int.reduceBEq, base_Xa, hv, hp1, hc1, hp2, hc2, hq] <;> with_reducible rfl)))
      rw [e]
      exact ih (by omega) (by omega) (fun h => hk (by rw [q, h])) (fun h => hr (fun h2 => h (List.cons.inj h2).2))
    · have hq : ∀ ox oy, pBin Try.prog .neq 9 ox oy (.string x) (.string y) = some (.bool true) := fun ox oy => by rw [ne_s]; simp [q]
      repeat (first | (with_reducible apply Tl.val; focus (simp (disch := omega) only [coreA, Int.reduceBEq, base_Xa, hv, hp1, hc1, hp2, hc2, hq] <;> with_reducible rfl)) | (with_reducible first | refine Tl.brT ?_ | refine Tl.brF ?_ | refine Tl.gd_on ?_ | refine Tl.gd3_on ?_) | ((with_reducible first | apply Tl.brC | apply Tl.gdC | apply Tl.gd3C); focus (simp (disch := omega) only [coreA, Int.reduceBEq, base_Xa, hv, hp1, hc1, hp2, hc2, hq] <;> with_reducible rfl)))
      exact hr (fun h2 => q (List.cons.inj h2).1)
theorem f14c {k : Nat} {h : AH} {v w : Value} {l m : List ByteArray} (A : Strs h v l) (B : Strs h w m) (hl : l.length ≤ 2 ^ 40) (hm : m.length ≤ 2 ^ 40) (hk : l.length < k) :
    eInv env (k + 1) (.func 14) #[] #[v, w] h = some (.bool (decide (l = m)), h) := by
  have T : Tl (F14 (eInv env k) k v w h) fun r => r = (.bool (decide (l = m)), h) := by
    unfold F14
    have hv : ∀ h', pLen Try.prog #[22] v h' = some (.int .i64 l.length) := fun h' => A.len
    have hw : ∀ h', pLen Try.prog #[22] w h' = some (.int .i64 m.length) := fun h' => B.len
    by_cases q : l.length = m.length
    · repeat (first | (with_reducible apply Tl.val; focus (simp (disch := omega) only [coreA, Int.reduceBEq, base_Xa, hv, hw] <;> with_reducible rfl)) | (with_reducible first | refine Tl.brT ?_ | refine Tl.brF ?_ | refine Tl.gd_on ?_ | refine Tl.gd3_on ?_) | ((with_reducible first | apply Tl.brC | apply Tl.gdC | apply Tl.gd3C); focus (simp (disch := omega) only [coreA, Int.reduceBEq, base_Xa, hv, hw] <;> with_reducible rfl)))
      refine f14_loop A B q (by omega) l.length (i := 0) (by omega) (by omega) (fun h y1 y2 => ⟨_, rfl, ?_⟩) (fun h => ⟨_, rfl, ?_⟩)
      · simpa using h
      · simpa using h
    · repeat (first | (with_reducible apply Tl.val; focus (simp (disch := omega) only [coreA, Int.reduceBEq, base_Xa, hv, hw] <;> with_reducible rfl)) | (with_reducible first | refine Tl.brT ?_ | refine Tl.brF ?_ | refine Tl.gd_on ?_ | refine Tl.gd3_on ?_) | ((with_reducible first | apply Tl.brC | apply Tl.gdC | apply Tl.gd3C); focus (simp (disch := omega) only [coreA, Int.reduceBEq, base_Xa, hv, hw] <;> with_reducible rfl)))
      exact ⟨_, rfl, by
        have : ¬ l = m := fun h => q (by rw [h])
        simp [this]⟩
  obtain ⟨r, h1, h2⟩ := T
  rw [F14_call, h1, h2]
end Go.Proofs.Ytagcejlclcldcaa.Sh
