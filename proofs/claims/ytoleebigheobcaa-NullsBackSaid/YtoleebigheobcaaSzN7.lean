/- What 'Get' of the nulls' package comes to. -/
import Derived.Test.YtoleebigheobcaaSzN6
set_option linter.unusedVariables false
set_option linter.unusedSimpArgs false
set_option maxRecDepth 100000
namespace Go.Proofs.Ytoleebigheobcaa.Sh
open Go Go.RowKit Go.Proofs.Ev
theorem base_N7 : type_of% (And.intro @ld3 (And.intro @ld4 (And.intro @ld5 (And.intro @ld22 (And.intro @ld25 (And.intro @ld32 (And.intro @ld49 (And.intro @ld52 (And.intro @ex2_0 (And.intro @ex2_1 (And.intro @ex3_0 (And.intro @ex3_1 (@ex3_2))))))))))))) := And.intro @ld3 (And.intro @ld4 (And.intro @ld5 (And.intro @ld22 (And.intro @ld25 (And.intro @ld32 (And.intro @ld49 (And.intro @ld52 (And.intro @ex2_0 (And.intro @ex2_1 (And.intro @ex3_0 (And.intro @ex3_1 (@ex3_2))))))))))))
/-- The first so many. -/
theorem Bytes.takeS {h : AH} {v : Value} {l : List Nat} (S : Bytes h v l) {n : Nat} (hn : n ≤ l.length) : ∃ v', (∀ h', pSlice Try.prog 32 v none (some (.int .i64 n)) none h' = some v') ∧ Bytes h v' (l.take n) := by
  have hm : ∀ d : Int, intOr d (some (.int .i64 (n : Int))) = some (n : Int) := fun d => rfl
  have hm2 : ∀ d : Int, intOr d none = some d := fun d => rfl
  rcases S with ⟨rfl, q⟩ | ⟨b, off, cap, own, rfl, h2, L⟩
  · have : l = [] := by simpa using q
    subst this
    have : n = 0 := by simpa using hn
    subst this
    refine ⟨.slice none 0 0, fun h' => ?_, .inl ⟨rfl, rfl⟩⟩
    unfold pSlice
    simp only [el32, Option.bind_some, sz5, hm, hm2]
    simp
  · rw [List.length_map] at h2
    refine ⟨.slice (some ⟨b, off, none⟩) n cap, fun h' => ?_, .inr ⟨b, off, cap, own, by simp; omega, by simp; omega, ?_⟩⟩
    · unfold pSlice
      simp only [el32, Option.bind_some, sz5, hm, hm2, List.length_map]
      rw [if_pos ⟨by omega, by omega, by omega, by omega, by simp, by simp⟩]
      simp
    · have := L.part 0 n (by omega)
      rw [List.map_take]
      simpa using this
theorem bytesOf_u8 (l : List Nat) : bytesOf (l.map u8v) = some (l.map UInt8.ofNat) := by
  induction l with
  | nil => rfl
  | cons x l ih => simp only [List.map_cons, u8v] at ih ⊢; unfold bytesOf; rw [ih]; simp
def strB (l : List Nat) : ByteArray := ⟨(l.map UInt8.ofNat).toArray⟩
theorem strB_inj {l m : List Nat} (hl : ∀ x ∈ l, x < 256) (hm : ∀ x ∈ m, x < 256) (h : strB l = strB m) : l = m := by
  have h1 : l.map UInt8.ofNat = m.map UInt8.ofNat := by
    have := congrArg (fun b => b.data.toList) h
    simpa [strB] using this
  have key : ∀ l : List Nat, (∀ x ∈ l, x < 256) → (l.map UInt8.ofNat).map UInt8.toNat = l := fun l hl => by
    rw [List.map_map]
    conv => rhs; rw [← List.map_id l]
    refine List.map_congr_left fun x hx => ?_
    simp [hl x hx, Nat.mod_eq_of_lt]
  rw [← key l hl, ← key m hm, h1]
theorem str_empty : (.string .empty : Value) = .string (strB []) := rfl
theorem convB {h : AH} {v : Value} {l : List Nat} (S : Bytes h v l) : pConv Try.prog 32 9 v h = some (.string (strB l)) := by
  rcases S with ⟨rfl, q⟩ | ⟨b, off, cap, own, rfl, h2, L⟩
  · have : l = [] := by simpa using q
    subst this
    unfold pConv
    have : plain (.slice none 0 0) = true := rfl
    simp only [this, if_true, u9, el32, Option.bind_some, u5]
    rfl
  · unfold pConv
    have : plain (.slice (some ⟨b, off, none⟩) (l.map fun x => [u8v x]).length cap) = false := rfl
    simp only [this, Bool.false_eq_true, if_false, u9, el32, u5, List.length_map]
    by_cases hl : l = []
    · subst hl
      have p0 : plain (.slice (some ⟨b, off, none⟩) ([] : List Nat).length cap) = false := rfl
      simp only [p0, Bool.false_eq_true, if_false, List.length_nil, if_true]
      rfl
    · have hne : l.length ≠ 0 := by simpa using hl
      rw [if_neg hne]
      have := L.flat (by simpa using hl)
      rw [List.length_map, Nat.mul_one, flat_u8] at this
      rw [this]
      simp only [bytesOf_u8, Option.map_some]
      rfl
theorem f37c {k : Nat} {h : AH} {v w : Value} {l m : List Nat} (S : Bytes h v l) (T : Bytes h w m) (hl : ∀ x ∈ l, x < 256) (hm : ∀ x ∈ m, x < 256) : eInv env (k + 1) (.func 37) #[] #[v, w] h = some (.bool (decide (l = m)), h) := by
  have T : Tl (F37 (eInv env k) k v w h) fun r => r = (.bool (decide (l = m)), h) := by
    unfold F37
    have c1 := convB S
    have c2 := convB T
    have eq : ∀ x y, pBin Try.prog Go.BinOp.eql 9 x y (.string (strB l)) (.string (strB m)) = some (.bool (decide (l = m))) := fun x y => by
      rw [bin_eql_string]
      congr 2
      by_cases q : l = m
      · simp [q]
      · have : ¬ strB l = strB m := fun h => q (strB_inj hl hm h)
        simp [q, this]
    repeat (first | (with_reducible apply Tl.val; focus (simp (disch := omega) only [coreA, Int.reduceBEq, base_N7, conv_int u3 u49, conv_int u49 u3, conv_int u3 u68, conv_int u68 u3, bin_eql_bool u4, bin_neq_bool u4, c1, c2, eq] <;> with_reducible rfl)) | with_reducible refine Tl.brT ?_ | with_reducible refine Tl.brF ?_ | with_reducible refine Tl.gd_on ?_ | with_reducible refine Tl.gd3_on ?_ | ((first | with_reducible apply Tl.brC | with_reducible apply Tl.gdC | with_reducible apply Tl.gd3C); focus (simp (disch := omega) only [coreA, Int.reduceBEq, base_N7, conv_int u3 u49, conv_int u49 u3, conv_int u3 u68, conv_int u68 u3, bin_eql_bool u4, bin_neq_bool u4, c1, c2, eq] <;> with_reducible rfl)))
    exact ⟨_, rfl, rfl⟩
  obtain ⟨r, h1, h2⟩ := T
  rw [F37_call, h1, h2]
theorem f16c {k : Nat} {n0 : Nat} {h0 h : AH} {L : List (Nat × AO)} {O : List OS} {v : Value} {l : List Nat} (S : Stt Try.prog n0 h0 h L O) (B : Bytes h v l) (hl : l.length ≤ 2 ^ 30) :
    Tl (eInv env (k + 1) (.func 16) #[] #[v] h) fun r => Stt Try.prog n0 h0 r.2 L ((r.1, 1, u8rows l) :: O) ∧ Grow h r.2 := by
  rw [F16_call]
  unfold F16
  refine Tl.copyB S B hl fun v' h' S' g _ => ?_
  exact ⟨_, rfl, S', g⟩
theorem f17_loop {β : Type} {k : Nat} {Q : β → Prop} {h : AH} {v w : Value} {l m : List Nat} (S : Bytes h v l) (T : Bytes h w m) (hlm : l.length = m.length) (hl : l.length ≤ 2 ^ 40) {ke0 : Value → Value → Value → Value → AH → Option β} {kr : Value → AH → Option β} (n : Nat) :
    ∀ {i j : Nat}, i + n = l.length → n < j → (l.drop i = m.drop i → ∀ y y', Tl (ke0 v w y y' h) Q) → (l.drop i ≠ m.drop i → Tl (kr (.bool false) h) Q) → Tl (F17_lrlrr (eInv env k) k j v w (.int .i64 i) h ke0 kr) Q := by
  have hlen : ∀ h', pLen Try.prog #[32] v h' = some (.int .i64 l.length) := fun h' => S.len
  induction n with
  | zero =>
    intro i j hi hj hk hr
    obtain ⟨j, rfl⟩ : ∃ q, j = q + 1 := ⟨j - 1, by omega⟩
    simp only [F17_lrlrr]
    repeat (first | (with_reducible apply Tl.val; focus (simp (disch := omega) only [coreA, Int.reduceBEq, base_N7, conv_int u3 u49, conv_int u49 u3, conv_int u3 u68, conv_int u68 u3, bin_eql_bool u4, bin_neq_bool u4, hlen] <;> with_reducible rfl)) | with_reducible refine Tl.brT ?_ | with_reducible refine Tl.brF ?_ | with_reducible refine Tl.gd_on ?_ | with_reducible refine Tl.gd3_on ?_ | ((first | with_reducible apply Tl.brC | with_reducible apply Tl.gdC | with_reducible apply Tl.gd3C); focus (simp (disch := omega) only [coreA, Int.reduceBEq, base_N7, conv_int u3 u49, conv_int u49 u3, conv_int u3 u68, conv_int u68 u3, bin_eql_bool u4, bin_neq_bool u4, hlen] <;> with_reducible rfl)))
    exact hk (by rw [List.drop_eq_nil_of_le (by omega), List.drop_eq_nil_of_le (by omega)]) _ _
  | succ n ih =>
    intro i j hi hj hk hr
    obtain ⟨j, rfl⟩ : ∃ q, j = q + 1 := ⟨j - 1, by omega⟩
    obtain ⟨x, hx⟩ : ∃ x, l[i]? = some x := ⟨_, List.getElem?_eq_getElem (by omega)⟩
    obtain ⟨y, hy⟩ : ∃ x, m[i]? = some x := ⟨_, List.getElem?_eq_getElem (by omega)⟩
    obtain ⟨b, o, hp, hc⟩ := S.at_ hx
    obtain ⟨b2, o2, hp2, hc2⟩ := T.at_ hy
    have hc := hc h (Grow.refl _)
    have hc2 := hc2 h (Grow.refl _)
    rw [drop_cons hx, drop_cons hy] at hk hr
    have e : (i : Int) + 1 = ((i + 1 : Nat) : Int) := by omega
    simp only [F17_lrlrr]
    by_cases q : x = y
    · repeat (first | (with_reducible apply Tl.val; focus (simp (disch := omega) only [coreA, Int.reduceBEq, base_N7, conv_int u3 u49, conv_int u49 u3, conv_int u3 u68, conv_int u68 u3, bin_eql_bool u4, bin_neq_bool u4, hlen, hp, hc, hp2, hc2] <;> with_reducible rfl)) | with_reducible refine Tl.brT ?_ | with_reducible refine Tl.brF ?_ | with_reducible refine Tl.gd_on ?_ | with_reducible refine Tl.gd3_on ?_ | ((first | with_reducible apply Tl.brC | with_reducible apply Tl.gdC | with_reducible apply Tl.gd3C); focus (simp (disch := omega) only [coreA, Int.reduceBEq, base_N7, conv_int u3 u49, conv_int u49 u3, conv_int u3 u68, conv_int u68 u3, bin_eql_bool u4, bin_neq_bool u4, hlen, hp, hc, hp2, hc2] <;> with_reducible rfl)))
      rw [e]
      subst q
      exact ih (by omega) (by omega) (fun q => hk (by rw [q])) (fun q => hr (by simpa using q))
    · repeat (first | (with_reducible apply Tl.val; focus (simp (disch := omega) only [coreA, Int.reduceBEq, base_N7, conv_int u3 u49, conv_int u49 u3, conv_int u3 u68, conv_int u68 u3, bin_eql_bool u4, bin_neq_bool u4, hlen, hp, hc, hp2, hc2] <;> with_reducible rfl)) | with_reducible refine Tl.brT ?_ | with_reducible refine Tl.brF ?_ | with_reducible refine Tl.gd_on ?_ | with_reducible refine Tl.gd3_on ?_ | ((first | with_reducible apply Tl.brC | with_reducible apply Tl.gdC | with_reducible apply Tl.gd3C); focus (simp (disch := omega) only [coreA, Int.reduceBEq, base_N7, conv_int u3 u49, conv_int u49 u3, conv_int u3 u68, conv_int u68 u3, bin_eql_bool u4, bin_neq_bool u4, hlen, hp, hc, hp2, hc2] <;> with_reducible rfl)))
      exact hr (by simp [q])
theorem f17c {k : Nat} {h : AH} {v w : Value} {l m : List Nat} (S : Bytes h v l) (T : Bytes h w m) (hl : l.length ≤ 2 ^ 40) (hm : m.length ≤ 2 ^ 40) (hk : l.length < k) : eInv env (k + 1) (.func 17) #[] #[v, w] h = some (.bool (decide (l = m)), h) := by
  have T : Tl (F17 (eInv env k) k v w h) fun r => r = (.bool (decide (l = m)), h) := by
    have hlen : ∀ h', pLen Try.prog #[32] v h' = some (.int .i64 l.length) := fun h' => S.len
    have hlen2 : ∀ h', pLen Try.prog #[32] w h' = some (.int .i64 m.length) := fun h' => T.len
    unfold F17
    by_cases e : l.length = m.length
    · repeat (first | (with_reducible apply Tl.val; focus (simp (disch := omega) only [coreA, Int.reduceBEq, base_N7, conv_int u3 u49, conv_int u49 u3, conv_int u3 u68, conv_int u68 u3, bin_eql_bool u4, bin_neq_bool u4, hlen, hlen2] <;> with_reducible rfl)) | with_reducible refine Tl.brT ?_ | with_reducible refine Tl.brF ?_ | with_reducible refine Tl.gd_on ?_ | with_reducible refine Tl.gd3_on ?_ | ((first | with_reducible apply Tl.brC | with_reducible apply Tl.gdC | with_reducible apply Tl.gd3C); focus (simp (disch := omega) only [coreA, Int.reduceBEq, base_N7, conv_int u3 u49, conv_int u49 u3, conv_int u3 u68, conv_int u68 u3, bin_eql_bool u4, bin_neq_bool u4, hlen, hlen2] <;> with_reducible rfl)))
      refine f17_loop S T e hl l.length (i := 0) (by omega) (by omega) (fun q y y' => ⟨_, rfl, ?_⟩) (fun q => ⟨_, rfl, ?_⟩)
      · have : l = m := by simpa using q
        simp [this]
      · have : l ≠ m := by simpa using q
        simp [this]
    · repeat (first | (with_reducible apply Tl.val; focus (simp (disch := omega) only [coreA, Int.reduceBEq, base_N7, conv_int u3 u49, conv_int u49 u3, conv_int u3 u68, conv_int u68 u3, bin_eql_bool u4, bin_neq_bool u4, hlen, hlen2] <;> with_reducible rfl)) | with_reducible refine Tl.brT ?_ | with_reducible refine Tl.brF ?_ | with_reducible refine Tl.gd_on ?_ | with_reducible refine Tl.gd3_on ?_ | ((first | with_reducible apply Tl.brC | with_reducible apply Tl.gdC | with_reducible apply Tl.gd3C); focus (simp (disch := omega) only [coreA, Int.reduceBEq, base_N7, conv_int u3 u49, conv_int u49 u3, conv_int u3 u68, conv_int u68 u3, bin_eql_bool u4, bin_neq_bool u4, hlen, hlen2] <;> with_reducible rfl)))
      have : l ≠ m := fun q => e (by rw [q])
      exact ⟨_, rfl, by simp [this]⟩
  obtain ⟨r, h1, h2⟩ := T
  rw [F17_call, h1, h2]
end Go.Proofs.Ytoleebigheobcaa.Sh
