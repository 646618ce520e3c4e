/- Words of texts. -/
import Derived.Test.YtghelamfaaakcaaGreatSzXa
import Derived.Test.YtghelamfaaakcaaGreatWordM
set_option linter.unusedVariables false
set_option linter.unusedSimpArgs false
set_option maxRecDepth 100000
namespace Go.Proofs.YtghelamfaaakcaaGreat.Sh
open Go Go.RowKit Go.Proofs.Ev
theorem bzXb : type_of% (And.intro @ld3 (And.intro @ld9 (And.intro @ld122 (@Nat.add_zero)))) := And.intro @ld3 (And.intro @ld9 (And.intro @ld122 (@Nat.add_zero)))
theorem mapTS : mapT Tryz.prog 199 = some (9, 200) := by kernel_rfl
theorem bd_unit : pBuild Tryz.prog 200 #[] = some (.agg #[]) := by kernel_rfl
section
variable {β : Type} {Q : β → Prop} {n0 : Nat} {h0 h : AH} {L : List (Nat × AO)} {O : List OS}
theorem Tl.insS {m : Nat} {ks : List ByteArray} {x : ByteArray} {K : Value × AH → Option β} (S : Stt Tryz.prog n0 h0 h ((m, .map (entsS (.agg #[]) 0 ks) ks.length) :: L) O)
    (hk : ∀ h', Stt Tryz.prog n0 h0 h' ((m, .map (entsS (.agg #[]) 0 (insT ks x)) (insT ks x).length) :: L) O → Tl (K (unk, h')) Q) : Tl (bnd (kSt (pUpdate Tryz.prog 199 (.map (some m)) (.string x) (.agg #[]) h)) K) Q := by
  unfold Ev.insT at hk
  by_cases q : x ∈ ks
  · rw [if_pos q] at hk
    obtain ⟨j, _, h2, h3⟩ := findS_yes (z := .agg #[]) x ks 0 0 q
    have e : pUpdate Tryz.prog 199 (.map (some m)) (.string x) (.agg #[]) h = some (h.set m (.map (entsS (.agg #[]) 0 ks) ks.length)) := by
      have hkn : kn (.agg #[]) = true := rfl
      unfold pUpdate
      simp only [mapTS, u9, S.sta.mem.at_ (i := 0) rfl, keyOk, hkn, Bool.and_self, if_true, h2]
      rw [Nat.sub_zero] at h3
      rw [h3]
    rw [e]
    exact hk _ (S.set 0 rfl _)
  · rw [if_neg q] at hk
    refine Tl.upd S 0 rfl mapTS u9 rfl rfl (findS_no x ks 0 0 q) fun h' S' => hk h' ?_
    have e := entsS_snoc (z := .agg #[]) x ks 0
    rw [Nat.zero_add] at e
    rw [e, List.length_append]
    exact S'
theorem f157_loop {inv : Inv} {k : Nat} {m : Nat} {v : Value} {l : List ByteArray} (A : Strs h0 v l) (hl : l.length ≤ 2 ^ 40) {ke0 : Value → Value → Value → Value → Value → AH → Option β} (n : Nat) :
    ∀ {i j : Nat} {ks : List ByteArray} {h : AH}, i + n = l.length → n < j → Stt Tryz.prog h0.n h0 h ((m, .map (entsS (.agg #[]) 0 ks) ks.length) :: L) O →
      (∀ y1 y2 y3 y4 h', Stt Tryz.prog h0.n h0 h' ((m, .map (entsS (.agg #[]) 0 ((l.drop i).foldl insT ks)) ((l.drop i).foldl insT ks).length) :: L) O → Tl (ke0 (.map (some m)) y1 y2 y3 y4 h') Q) →
      Tl (F157_lrlrr inv k j (.map (some m)) v (.int .i64 l.length) (.int .i64 i) h ke0) Q := by
  induction n with
  | zero =>
    intro i j ks h hi hj S hk
    obtain ⟨j, rfl⟩ : ∃ q, j = q + 1 := ⟨j - 1, by omega⟩
    simp only [F157_lrlrr]
    repeat (first | (with_reducible apply qzV; simp (disch := omega) only [coreA, Int.reduceBEq, bzXb] <;> with_reducible rfl) | (with_reducible first | apply qzT | apply qzF | apply qzG | apply qzH) | ((with_reducible first | apply qzB | apply qzC | apply qzD); simp (disch := omega) only [coreA, Int.reduceBEq, bzXb] <;> with_reducible rfl))
    rw [List.drop_eq_nil_of_le (by omega)] at hk
    exact hk _ _ _ _ _ S
  | succ n ih =>
    intro i j ks h hi hj S hk
    obtain ⟨j, rfl⟩ : ∃ q, j = q + 1 := ⟨j - 1, by omega⟩
    obtain ⟨x, ex⟩ : ∃ x, l[i]? = some x := ⟨_, List.getElem?_eq_getElem (by omega)⟩
    obtain ⟨b, o, hp, hc⟩ := A.at_ (k := .i64) ex
    have hc := hc h S.grow
    have e : (i : Int) + 1 = ((i + 1 : Nat) : Int) := by omega
    have hd : l.drop i = x :: l.drop (i + 1) := by rw [List.drop_eq_getElem?_toList_append, ex]; rfl
    rw [hd, List.foldl_cons] at hk
    simp only [F157_lrlrr]
    repeat (first | (with_reducible apply qzV; simp (disch := omega) only [coreA, Int.reduceBEq, bzXb, hp, hc, bd_unit] <;> with_reducible rfl) | (with_reducible first | apply qzT | apply qzF | apply qzG | apply qzH) | ((with_reducible first | apply qzB | apply qzC | apply qzD); simp (disch := omega) only [coreA, Int.reduceBEq, bzXb, hp, hc, bd_unit] <;> with_reducible rfl))
    refine Tl.insS S fun h' S' => ?_
    repeat (first | (with_reducible apply qzV; simp (disch := omega) only [coreA, Int.reduceBEq, bzXb] <;> with_reducible rfl) | (with_reducible first | apply qzT | apply qzF | apply qzG | apply qzH) | ((with_reducible first | apply qzB | apply qzC | apply qzD); simp (disch := omega) only [coreA, Int.reduceBEq, bzXb] <;> with_reducible rfl))
    rw [e]
    exact ih (by omega) (by omega) S' hk
/-- Texts, each once, rising: in memory of their own. -/
theorem f157c {k : Nat} {v : Value} {l : List ByteArray} (S : Stt Tryz.prog n0 h0 h L O) (A : Strs h v l) (hs : ∀ x ∈ l, x.size ≤ maxLen) (hl : l.length ≤ 2 ^ 40) (hk : l.length < k + 2) :
    Tl (eInv env (k + 3) (.func 157) #[] #[v] h) fun r => Stt Tryz.prog n0 h0 r.2 L ((r.1, 1, srows (wordsB l)) :: O) := by
  rw [F157_call]
  unfold F157
  have hv : ∀ h', pLen Tryz.prog #[122] v h' = some (.int .i64 l.length) := fun h' => A.len
  refine Tl.mkmap (Stt.init h : Stt Tryz.prog h.n h h [] []) mapTS fun m h1 S1 g1 => ?_
  repeat (first | (with_reducible apply qzV; simp (disch := omega) only [coreA, Int.reduceBEq, bzXb, hv] <;> with_reducible rfl) | (with_reducible first | apply qzT | apply qzF | apply qzG | apply qzH) | ((with_reducible first | apply qzB | apply qzC | apply qzD); simp (disch := omega) only [coreA, Int.reduceBEq, bzXb, hv] <;> with_reducible rfl))
  refine f157_loop (h0 := h) A hl l.length (i := 0) (ks := []) (by omega) (by omega) S1 fun y1 y2 y3 y4 h2 S2 => ?_
  rw [List.drop_zero] at S2
  refine Tl.bind (R := fun r => ∃ b, r.1 = .func (.func 178) #[] #[.pointer (some ⟨b, 0, none⟩)] ∧ Stt Tryz.prog h.n h r.2 ((b, .cells [.map (some m)] 199 true) :: (m, .map (entsS (.agg #[]) 0 (l.foldl insT [])) (l.foldl insT []).length) :: []) []) ?_ ?_
  · rw [F171_call]
    unfold F171
    refine Tl.box' S2 rfl (by kernel_rfl) fun b h3 S3 _ => ?_
    repeat (first | (with_reducible apply qzV; simp (disch := omega) only [coreA, Int.reduceBEq, bzXb, pMakeFunc, kn] <;> with_reducible rfl) | (with_reducible first | apply qzT | apply qzF | apply qzG | apply qzH) | ((with_reducible first | apply qzB | apply qzC | apply qzD); simp (disch := omega) only [coreA, Int.reduceBEq, bzXb, pMakeFunc, kn] <;> with_reducible rfl))
    exact ⟨_, rfl, b, rfl, S3⟩
  rintro ⟨fv, h3⟩ ⟨b, rfl, S3⟩
  simp only at S3
  have hb : h3.get b = some (.cells [.map (some m)] 199 true) := S3.sta.mem.at_ (i := 0) rfl
  have hm : h3.get m = some (.map (entsS (.agg #[]) 0 (l.foldl insT [])) (l.foldl insT []).length) := S3.sta.mem.at_ (i := 1) rfl
  have hnd := insTs_nodup l [] (by simp)
  have hlen := insTs_len l []
  have hsz : ∀ s ∈ l.foldl insT [], s.size ≤ maxLen := fun s q => hs s (by have := (insTs_mem (y := s) l []).1 q; simpa using this)
  have hfine := entsS_fine (z := .agg #[]) hnd hsz (by simp at hlen; omega)
  have ek : keysO [178] 9 #[.func (.func 178) #[] #[.pointer (some ⟨b, 0, none⟩)]] h3 = if (l.foldl insT []).isEmpty then some (.slice none 0 0, h3) else some (.slice (some ⟨h3.n, 0, none⟩) (l.foldl insT []).length (l.foldl insT []).length, h3.alloc (.cells ((sortedT (l.foldl insT [])).map encStr) 9 true)) := by
    unfold keysO
    simp only [hb, hm, entsS_texts, Option.bind_some, hfine]
    exact if_pos (by decide)
  have ec : eInv env (k + 2) (.func 170) #[] #[.func (.func 178) #[] #[.pointer (some ⟨b, 0, none⟩)]] h3 = _ := keys_call.trans ek
  have Sg : Stt Tryz.prog n0 h0 h3 L O := S.call S3.grow
  by_cases q : (l.foldl insT []) = []
  · have e1 : (l.foldl insT []).isEmpty = true := by rw [q]; rfl
    rw [e1, if_pos rfl] at ec
    repeat (first | (with_reducible apply qzV; simp (disch := omega) only [coreA, Int.reduceBEq, bzXb, ec] <;> with_reducible rfl) | (with_reducible first | apply qzT | apply qzF | apply qzG | apply qzH) | ((with_reducible first | apply qzB | apply qzC | apply qzD); simp (disch := omega) only [coreA, Int.reduceBEq, bzXb, ec] <;> with_reducible rfl))
    have e2 : wordsB l = [] := by unfold wordsB; rw [q]; rfl
    refine ⟨_, rfl, ?_⟩
    rw [e2]
    exact Sg.nil 1
  · have e1 : (l.foldl insT []).isEmpty = false := by simpa using q
    rw [e1, if_neg (by simp)] at ec
    repeat (first | (with_reducible apply qzV; simp (disch := omega) only [coreA, Int.reduceBEq, bzXb, ec] <;> with_reducible rfl) | (with_reducible first | apply qzT | apply qzF | apply qzG | apply qzH) | ((with_reducible first | apply qzB | apply qzC | apply qzD); simp (disch := omega) only [coreA, Int.reduceBEq, bzXb, ec] <;> with_reducible rfl))
    refine ⟨_, rfl, ?_⟩
    have el : (l.foldl insT []).length = (srows (wordsB l)).length := by rw [srows_len, (wordsB_perm l).length_eq]
    have ew : (sortedT (l.foldl insT [])).map encStr = (srows (wordsB l)).flatten := by
      rw [srows_flat]
      unfold wordsB
      rw [List.map_map]
      rfl
    have Sa := Sg.alloc (.cells ((srows (wordsB l)).flatten) 9 true)
    rw [ew, el]
    exact Sa.absorb (srows_wide _) sz9
end
end Go.Proofs.YtghelamfaaakcaaGreat.Sh
