/- Words: texts, each once, rising. No program in sight. -/
import Derived.Test.YtlbmlncdjkdoaaaGreatKeysO
import Derived.Test.YtlbmlncdjkdoaaaGreatEvC
set_option linter.unusedVariables false
set_option linter.unusedSimpArgs false
namespace Go.Proofs.Ev
open Go
instance memDec (x : ByteArray) (ks : List ByteArray) : Decidable (x ∈ ks):=decidable_of_iff (ks.any (fun y=>decide (y = x)) = true) (by simp)
def insT (ks : List ByteArray) (x : ByteArray) : List ByteArray:=if x ∈ ks then ks else ks ++ [x]
theorem insT_mem {ks : List ByteArray} {x y : ByteArray} : y ∈ insT ks x ↔ y ∈ ks ∨ y = x:=by
 unfold insT
 split
 ·constructor
  ·exact .inl
  ·rintro (h | rfl)
   ·exact h
   ·assumption
 ·simp
theorem insT_nodup {ks : List ByteArray} {x : ByteArray} (h : ks.Nodup) : (insT ks x).Nodup:=by
 unfold insT
 split
 ·exact h
 ·rename_i hx
  rw [List.nodup_append]
  exact ⟨h,by simp,fun a ha b hb=>by simp at hb; subst hb; rintro rfl; exact hx ha⟩
theorem insTs_mem {y : ByteArray} : ∀ (l ks : List ByteArray),y ∈ l.foldl insT ks ↔ y ∈ ks ∨ y ∈ l
 | [],ks=>by simp
 | a :: l,ks=>by
  rw [List.foldl_cons,insTs_mem l,insT_mem,List.mem_cons,or_assoc]
theorem insTs_nodup : ∀ (l ks : List ByteArray),ks.Nodup→(l.foldl insT ks).Nodup
 | [],ks,h=>h
 | a :: l,ks,h=>insTs_nodup l _ (insT_nodup h)
theorem insTs_len : ∀ (l ks : List ByteArray),(l.foldl insT ks).length ≤ ks.length + l.length
 | [],ks=>by simp
 | a :: l,ks=>by
  have h:=insTs_len l (insT ks a)
  have : (insT ks a).length ≤ ks.length + 1:=by
   unfold insT
   split <;> simp
  rw [List.foldl_cons,List.length_cons]
  omega
def ltB (a b : ByteArray) : Prop:=bytesB a < bytesB b
instance (a b : ByteArray) : Decidable (ltB a b):=inferInstanceAs (Decidable (bytesB a < bytesB b))
def wordsB (l : List ByteArray) : List ByteArray:=(sortedT (l.foldl insT [])).map fun s=>⟨s.toArray⟩
theorem bytesB_mk (s : List UInt8) : bytesB ⟨s.toArray⟩ = s:=by simp [bytesB]
theorem mk_bytesB (s : ByteArray) : (⟨(bytesB s).toArray⟩ : ByteArray) = s:=by simp [bytesB]
theorem bytesB_inj {a b : ByteArray} (h : bytesB a = bytesB b) : a = b:=by rw [← mk_bytesB a,h,mk_bytesB]
theorem wordsB_perm (l : List ByteArray) : (wordsB l).Perm (l.foldl insT []):=by
 have h:=(sortedT_perm (l.foldl insT [])).map (fun s=>(⟨s.toArray⟩ : ByteArray))
 rw [List.map_map] at h
 have e : (fun s : List UInt8=>(⟨s.toArray⟩ : ByteArray)) ∘ bytesB = id:=funext fun s=>mk_bytesB s
 rw [e,List.map_id] at h
 exact h
theorem wordsB_mem {l : List ByteArray} {x : ByteArray} : x ∈ wordsB l ↔ x ∈ l:=by
 rw [(wordsB_perm l).mem_iff,insTs_mem]
 simp
theorem wordsB_nodup (l : List ByteArray) : (wordsB l).Nodup:=(wordsB_perm l).nodup_iff.2 (insTs_nodup l [] (by simp))
theorem wordsB_len (l : List ByteArray) : (wordsB l).length ≤ l.length:=by
 rw [(wordsB_perm l).length_eq]
 simpa using insTs_len l []
theorem ltB_iff {a b : ByteArray} : ltB a b ↔ bytesB a ≤ bytesB b ∧ a ≠ b:=by
 unfold ltB
 constructor
 ·intro h
  refine ⟨List.le_of_lt h,?_⟩
  rintro rfl
  exact List.lt_irrefl _ h
 ·rintro ⟨h1,h2⟩
  rcases Decidable.em (bytesB a < bytesB b) with h | h
  ·exact h
  ·exact absurd (bytesB_inj (List.le_antisymm h1 (List.not_lt.1 h))) h2
theorem ltB_irrefl (a : ByteArray) : ¬ ltB a a:=fun h=>(ltB_iff.1 h).2 rfl
theorem ltB_trans {a b c : ByteArray} (h1 : ltB a b) (h2 : ltB b c) : ltB a c:=List.lt_trans h1 h2
theorem wordsB_rise (l : List ByteArray) : (wordsB l).Pairwise ltB:=by
 have h1 : (wordsB l).Pairwise fun a b=>bytesB a ≤ bytesB b:=by
  unfold wordsB
  rw [List.pairwise_map]
  exact (sortedT_le _).imp fun h=>by rw [bytesB_mk,bytesB_mk]; exact h
 have h2 : (wordsB l).Pairwise (· ≠ ·):=wordsB_nodup l
 exact (h1.and h2).imp fun h=>ltB_iff.2 h
/-! ### Keys of a map of texts, as they came -/
def entsS (z : Value) : Nat→List ByteArray→List MapEntry
 | _,[]=>[]
 | o,k :: ks=>{ key:=.string k,val:=z,born:=o } :: entsS z (o + 1) ks
variable {z : Value}
theorem entsS_len : ∀ (ks : List ByteArray) (o : Nat),(entsS z o ks).length = ks.length
 | [],o=>rfl
 | k :: ks,o=>by simp [entsS,entsS_len ks]
theorem entsS_snoc (x : ByteArray) : ∀ (ks : List ByteArray) (o : Nat),entsS z o (ks ++ [x]) = entsS z o ks ++ [{ key:=.string x,val:=z,born:=o + ks.length }]
 | [],o=>rfl
 | k :: ks,o=>by
  simp only [List.cons_append,entsS,entsS_snoc x ks,List.length_cons]
  rw [show o + 1 + ks.length = o + (ks.length + 1) by omega]
theorem beqS_f {a b : ByteArray} (h : ¬ a = b) : (a == b) = false:=by rw [beqB_dec]; simp [h]
theorem findS_no (x : ByteArray) : ∀ (ks : List ByteArray) (o i : Nat),x ∉ ks→findE .string (.string x) (entsS z o ks) i = some none
 | [],o,i,_=>rfl
 | k :: ks,o,i,h=>by
  have h1 : (x == k) = false:=beqS_f (fun q=>h (by rw [q]; exact List.mem_cons_self ..))
  have h2:=findS_no x ks (o + 1) (i + 1) (fun q=>h (List.mem_cons_of_mem _ q))
  simp only [entsS,findE,Instr.sameNow,h1]
  exact h2
theorem findS_yes (x : ByteArray) : ∀ (ks : List ByteArray) (o i : Nat),x ∈ ks→∃ j,i ≤ j ∧ findE .string (.string x) (entsS z o ks) i = some (some (j,z)) ∧ ((entsS z o ks).modify (j - i) fun e=>{ e with key:=.string x,val:=z }) = entsS z o ks
 | [],o,i,h=>by cases h
 | k :: ks,o,i,h=>by
  by_cases q : x = k
  ·subst q
   refine ⟨i,Nat.le_refl _,?_,by simp [entsS]⟩
   have h1 : (x == x) = true:=beqB x
   simp only [entsS,findE,Instr.sameNow,h1]
  ·have h1 : (x == k) = false:=beqS_f q
   obtain ⟨j,hj,h2,h3⟩:=findS_yes x ks (o + 1) (i + 1) ((List.mem_cons.1 h).resolve_left q)
   refine ⟨j,by omega,?_,?_⟩
   ·simp only [entsS,findE,Instr.sameNow,h1]
    exact h2
   ·rw [show j - i = (j - (i + 1)) + 1 by omega]
    simp only [entsS,List.modify_succ_cons,h3]
theorem entsS_texts : ∀ (ks : List ByteArray) (o : Nat),textsOf (entsS z o ks) = some ks
 | [],o=>rfl
 | k :: ks,o=>by simp only [entsS,textsOf,entsS_texts ks,Option.map_some]
theorem entsS_born : ∀ (ks : List ByteArray) (o : Nat),(entsS z o ks).map (·.born) = List.range' o ks.length
 | [],o=>rfl
 | k :: ks,o=>by simp only [entsS,List.map_cons,entsS_born ks,List.length_cons,List.range'_succ]
theorem entsS_fine {ks : List ByteArray} (h1 : ks.Nodup) (h2 : ∀ s ∈ ks,s.size ≤ maxLen) (h3 : ks.length ≤ 1099511627776) : mapFine (entsS z 0 ks) ks.length ks = true:=by
 unfold mapFine
 simp only [Bool.and_eq_true,List.all_eq_true,decide_eq_true_eq]
 refine ⟨fun e he=>?_,?_,h1,h2,by rw [entsS_len]; exact h3⟩
 ·have : e.born ∈ (entsS z 0 ks).map (·.born):=List.mem_map.2 ⟨e,he,rfl⟩
  rw [entsS_born,List.mem_range'_1] at this
  omega
 ·rw [entsS_born]
  exact List.nodup_range'
end Go.Proofs.Ev
