/- Texts that were put are got. No program's step in sight. -/
import Derived.Test.YtagcejlclcldcaaSzXf
set_option linter.unusedVariables false
set_option linter.unusedSimpArgs false
set_option maxRecDepth 100000
namespace Go.Proofs.Ytagcejlclcldcaa.Sh
open Go Go.RowKit Go.Proofs.Ev
theorem strB_bytesN (s : ByteArray) : strB (bytesN s) = s := by
  unfold strB bytesN
  rw [List.map_map]
  have e : (UInt8.ofNat ∘ UInt8.toNat) = id := funext fun x => by simp
  rw [e, List.map_id]
theorem readT_put : ∀ (l : List ByteArray) (rest : List Nat), (∀ x ∈ l, x.size ≤ 65536) → readT l.length (l.flatMap textP ++ rest) = some (l, rest) := by
  intro l
  induction l with
  | nil => intro rest _; rfl
  | cons s l ih =>
    intro rest h
    have hs := h s (List.mem_cons_self ..)
    have i := ih rest fun x hx => h x (List.mem_cons_of_mem _ hx)
    rw [List.flatMap_cons, List.length_cons, readT]
    have e : textP s ++ l.flatMap textP ++ rest = pvarN s.size ++ (bytesN s ++ (l.flatMap textP ++ rest)) := by
      unfold textP
      simp
    rw [e, dec_pvar _ s.size (i := 0) (acc := 0) (.inl rfl) (by simp; omega)]
    simp only [Nat.zero_add, Nat.mul_zero, Nat.pow_zero, Nat.mul_one]
    rw [if_neg (by rw [List.length_append, bytesN_len]; omega), List.take_left' (bytesN_len s), List.drop_left' (bytesN_len s), i, strB_bytesN]
    rfl
theorem getT_plain {l : List ByteArray} (h : mayT l = true) : getT (plainT l) = some l := by
  obtain ⟨h1, h2⟩ := mayT_spec.1 h
  have hr := readT_put l [] h2
  rw [List.append_nil] at hr
  unfold getT
  conv => lhs; unfold plainT
  simp only
  rw [dec_pvar _ l.length (i := 0) (acc := 0) (.inl rfl) (by simp; omega)]
  simp only [Nat.zero_add, Nat.mul_zero, Nat.pow_zero, Nat.mul_one]
  rw [if_neg (by omega)]
  unfold formT putF
  simp only [if_true]
  rw [hr]
  simp only [Option.map_some]
  rw [if_pos]
  unfold plainG
  rw [h]
  rfl
theorem lookT_pos (w : List ByteArray) : ∀ l : List ByteArray, (∀ x ∈ l, x ∈ w) → lookT w (l.map (posS w)) = some l := by
  intro l
  induction l with
  | nil => intro _; rfl
  | cons s l ih =>
    intro h
    rw [List.map_cons, lookT, posS_at (h s (List.mem_cons_self ..))]
    simp only
    rw [ih fun x hx => h x (List.mem_cons_of_mem _ hx)]
    rfl
theorem getT_dict {l : List ByteArray} (h : mayT l = true) : getT (dictT l) = some l := by
  obtain ⟨h1, h2⟩ := mayT_spec.1 h
  have hwl := wordsB_len l
  have hal : (atW l).length = l.length := List.length_map ..
  have ha64 : ∀ x ∈ atW l, x < 18446744073709551616 := fun x hx => by have := atW_lt x hx; omega
  have hW := Pk.width64 ha64
  obtain ⟨t1, t2⟩ := Pk.there (l := atW l) (W := widW l) (by omega) hW (Nat.le_refl _)
  rw [hal] at t1 t2
  have hr := readT_put (wordsB l) (widW l :: putN (widW l) (atW l)) fun x hx => h2 x (wordsB_mem.1 hx)
  have e : dictT l = 2 :: (pvarN l.length ++ (pvarN (wordsB l).length ++ ((wordsB l).flatMap textP ++ (widW l :: putN (widW l) (atW l))))) := by
    unfold dictT
    simp
  have hput : putF 2 l = dictT l := by
    unfold putF dictG
    rw [h]
    rfl
  have hw : wordsT l.length (pvarN (wordsB l).length ++ ((wordsB l).flatMap textP ++ (widW l :: putN (widW l) (atW l)))) = some l := by
    unfold wordsT
    rw [dec_pvar _ (wordsB l).length (i := 0) (acc := 0) (.inl rfl) (by simp; omega)]
    simp only [Nat.zero_add, Nat.mul_zero, Nat.pow_zero, Nat.mul_one]
    rw [if_neg (by omega), hr]
    simp only
    rw [if_neg (fun q => q t1), t2]
    exact lookT_pos (wordsB l) l fun x hx => wordsB_mem.2 hx
  rw [← hput]
  conv => lhs; rw [hput, e]
  unfold getT
  simp only
  rw [dec_pvar _ l.length (i := 0) (acc := 0) (.inl rfl) (by simp; omega)]
  simp only [Nat.zero_add, Nat.mul_zero, Nat.pow_zero, Nat.mul_one]
  rw [if_neg (by omega)]
  unfold formT
  rw [if_neg (by omega), if_pos rfl, hw]
  simp only
  rw [if_pos (by rw [hput, e])]
theorem getT_put {l : List ByteArray} (h : mayT l = true) : getT (putT l) = some l := by
  unfold putT
  rw [if_pos h]
  split
  · exact getT_dict h
  · exact getT_plain h
theorem getT_form {b : List Nat} {m : List ByteArray} (h : getT b = some m) : plainG m = b ∨ dictG m = b := by
  unfold getT at h
  split at h
  · cases h
  · rename_i form r
    split at h
    · cases h
    · split at h
      · cases h
      · split at h
        · cases h
        · rename_i l hf
          split at h
          · rename_i hp
            cases h
            unfold putF at hp
            split at hp
            · exact .inl hp
            · exact .inr hp
          · cases h
end Go.Proofs.Ytagcejlclcldcaa.Sh
