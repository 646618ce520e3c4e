/- Bytes as texts, held against each other; the first so many. -/
import Derived.Test.YtagcejlclcldcaaSzPb
set_option linter.unusedVariables false
set_option linter.unusedSimpArgs false
set_option maxRecDepth 100000
namespace Go.Proofs.Ytagcejlclcldcaa.Sh
open Go Go.RowKit Go.Proofs.Ev
theorem base_Bs : type_of% (And.intro @ld3 (And.intro @ld5 (@ld30))) := And.intro @ld3 (And.intro @ld5 (@ld30))
/-- The first so many. -/
theorem Bytes.takeS {h : AH} {v : Value} {l : List Nat} (S : Bytes h v l) {n : Nat} (hn : n ≤ l.length) : ∃ v', (∀ h', pSlice Try.prog 30 v none (some (.int .i64 n)) none h' = some v') ∧ Bytes h v' (l.take n) := by
  have hm : ∀ d : Int, intOr d (some (.int .i64 (n : Int))) = some (n : Int) := fun d => rfl
  have hm2 : ∀ d : Int, intOr d none = some d := fun d => rfl
  rcases S with ⟨rfl, q⟩ | ⟨b, off, cap, own, rfl, h2, L⟩
  · have : l = [] := by simpa using q
    subst this
    have : n = 0 := by simpa using hn
    subst this
    refine ⟨.slice none 0 0, fun h' => ?_, .inl ⟨rfl, rfl⟩⟩
    unfold pSlice
    simp only [el30, Option.bind_some, sz5, hm, hm2]
    simp
  · rw [List.length_map] at h2
    refine ⟨.slice (some ⟨b, off, none⟩) n cap, fun h' => ?_, .inr ⟨b, off, cap, own, by simp; omega, by simp; omega, ?_⟩⟩
    · unfold pSlice
      simp only [el30, Option.bind_some, sz5, hm, hm2, List.length_map]
      rw [if_pos ⟨by omega, by omega, by omega, by omega, by simp, by simp⟩]
      simp
    · have := L.part 0 n (by omega)
      rw [List.map_take]
      simpa using this
theorem bytesOf_u8 (l : List Nat) : bytesOf (l.map u8v) = some (l.map UInt8.ofNat) := by
  induction l with
  | nil => rfl
  | cons x l ih => simp only [List.map_cons, u8v] at ih ⊢; unfold bytesOf; rw [ih]; simp
def strB (l : List Nat) : ByteArray := ⟨(l.map UInt8.ofNat).toArray⟩
theorem strB_inj {l m : List Nat} (hl : ∀ x ∈ l, x < 256) (hm : ∀ x ∈ m, x < 256) (h : strB l = strB m) : l = m := by
  have h1 : l.map UInt8.ofNat = m.map UInt8.ofNat := by
    have := congrArg (fun b => b.data.toList) h
    simpa [strB] using this
  have key : ∀ l : List Nat, (∀ x ∈ l, x < 256) → (l.map UInt8.ofNat).map UInt8.toNat = l := fun l hl => by
    rw [List.map_map]
    conv => rhs; rw [← List.map_id l]
    refine List.map_congr_left fun x hx => ?_
    simp [hl x hx, Nat.mod_eq_of_lt]
  rw [← key l hl, ← key m hm, h1]
theorem convB {h : AH} {v : Value} {l : List Nat} (S : Bytes h v l) : pConv Try.prog 30 9 v h = some (.string (strB l)) := by
  rcases S with ⟨rfl, q⟩ | ⟨b, off, cap, own, rfl, h2, L⟩
  · have : l = [] := by simpa using q
    subst this
    unfold pConv
    have : plain (.slice none 0 0) = true := rfl
    simp only [this, if_true, u9, el30, Option.bind_some, u5]
    rfl
  · unfold pConv
    have : plain (.slice (some ⟨b, off, none⟩) (l.map fun x => [u8v x]).length cap) = false := rfl
    simp only [this, Bool.false_eq_true, if_false, u9, el30, u5, List.length_map]
    by_cases hl : l = []
    · subst hl
      have p0 : plain (.slice (some ⟨b, off, none⟩) ([] : List Nat).length cap) = false := rfl
      simp only [p0, Bool.false_eq_true, if_false, List.length_nil, if_true]
      rfl
    · have hne : l.length ≠ 0 := by simpa using hl
      rw [if_neg hne]
      have := L.flat (by simpa using hl)
      rw [List.length_map, Nat.mul_one, flat_u8] at this
      rw [this]
      simp only [bytesOf_u8, Option.map_some]
      rfl
theorem f40c {k : Nat} {h : AH} {v w : Value} {l m : List Nat} (S : Bytes h v l) (T : Bytes h w m) (hl : ∀ x ∈ l, x < 256) (hm : ∀ x ∈ m, x < 256) : eInv env (k + 1) (.func 40) #[] #[v, w] h = some (.bool (decide (l = m)), h) := by
  have T : Tl (F40 (eInv env k) k v w h) fun r => r = (.bool (decide (l = m)), h) := by
    unfold F40
    have c1 := convB S
    have c2 := convB T
    have eq : ∀ x y, pBin Try.prog Go.BinOp.eql 9 x y (.string (strB l)) (.string (strB m)) = some (.bool (decide (l = m))) := fun x y => by
      rw [bin_eql_string]
      congr 2
      by_cases q : l = m
      · simp [q]
      · have : ¬ strB l = strB m := fun h => q (strB_inj hl hm h)
        simp [q, this]
    repeat (first | (with_reducible apply Tl.val; focus (simp (disch := omega) only [coreA, Int.reduceBEq, base_Bs, c1, c2, eq] <;> with_reducible rfl)) | (with_reducible first | refine Tl.brT ?_ | refine Tl.brF ?_ | refine Tl.gd_on ?_ | refine Tl.gd3_on ?_) | ((with_reducible first | apply Tl.brC | apply Tl.gdC | apply Tl.gd3C); focus (simp (disch := omega) only [coreA, Int.reduceBEq, base_Bs, c1, c2, eq] <;> with_reducible rfl)))
    exact ⟨_, rfl, rfl⟩
  obtain ⟨r, h1, h2⟩ := T
  rw [F40_call, h1, h2]
end Go.Proofs.Ytagcejlclcldcaa.Sh
