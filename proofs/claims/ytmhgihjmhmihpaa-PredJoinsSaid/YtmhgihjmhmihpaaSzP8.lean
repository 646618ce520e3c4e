/- 'PredJoins' comes to true. -/
import Derived.Test.YtmhgihjmhmihpaaSzP7
import Derived.Test.YtmhgihjmhmihpaaBits
set_option linter.unusedVariables false
set_option linter.unusedSimpArgs false
set_option maxRecDepth 100000
namespace Go.Proofs.Ytmhgihjmhmihpaa.Sh
open Go Go.RowKit Go.Proofs.Ev
theorem base_P8 : type_of% (And.intro @ld3 (And.intro @ld4 (And.intro @ld22 (And.intro @ld46 (And.intro @Nat.add_zero ((fun ox oy a b => bin_eql_bool (ox := ox) (oy := oy) (a := a) (b := b) u4))))))) := And.intro @ld3 (And.intro @ld4 (And.intro @ld22 (And.intro @ld46 (And.intro @Nat.add_zero ((fun ox oy a b => bin_eql_bool (ox := ox) (oy := oy) (a := a) (b := b) u4))))))
theorem mapT52 : mapT Try.prog 52 = some (3, 3) := by kernel_rfl
/-- The entries of a map whose keys came in that order. -/
def ents : Nat → List Int → List MapEntry
  | _, [] => []
  | o, k :: ks => { key := .int .i64 k, val := .int .i64 1, born := o } :: ents (o + 1) ks
theorem ents_len : ∀ (ks : List Int) (o : Nat), (ents o ks).length = ks.length
  | [], o => rfl
  | k :: ks, o => by simp [ents, ents_len ks]
theorem ents_snoc (x : Int) : ∀ (ks : List Int) (o : Nat), ents o (ks ++ [x]) = ents o ks ++ [{ key := .int .i64 x, val := .int .i64 1, born := o + ks.length }]
  | [], o => rfl
  | k :: ks, o => by
    simp only [List.cons_append, ents, ents_snoc x ks, List.length_cons]
    rw [show o + 1 + ks.length = o + (ks.length + 1) by omega]
theorem find_no (x : Int) : ∀ (ks : List Int) (o i : Nat), x ∉ ks → findE (.int .i64) (.int .i64 x) (ents o ks) i = some none
  | [], o, i, _ => rfl
  | k :: ks, o, i, h => by
    have h1 : (x == k) = false := beq_f (fun q => h (by rw [q]; exact List.mem_cons_self ..))
    have h2 := find_no x ks (o + 1) (i + 1) (fun q => h (List.mem_cons_of_mem _ q))
    simp only [ents, findE, Instr.sameNow, if_true, h1]
    exact h2
theorem find_yes (x : Int) : ∀ (ks : List Int) (o i : Nat), x ∈ ks → ∃ j, i ≤ j ∧ findE (.int .i64) (.int .i64 x) (ents o ks) i = some (some (j, .int .i64 1)) ∧ ((ents o ks).modify (j - i) fun e => { e with key := .int .i64 x, val := .int .i64 1 }) = ents o ks
  | [], o, i, h => by cases h
  | k :: ks, o, i, h => by
    by_cases q : x = k
    · subst q
      refine ⟨i, Nat.le_refl _, ?_, by simp [ents]⟩
      simp [ents, findE, Instr.sameNow]
    · have h1 : (x == k) = false := beq_f q
      obtain ⟨j, hj, h2, h3⟩ := find_yes x ks (o + 1) (i + 1) ((List.mem_cons.1 h).resolve_left q)
      refine ⟨j, by omega, ?_, ?_⟩
      · simp only [ents, findE, Instr.sameNow, if_true, h1]
        exact h2
      · rw [show j - i = (j - (i + 1)) + 1 by omega]
        simp only [ents, List.modify_succ_cons, h3]
theorem Tl.insK {β : Type} {Q : β → Prop} {n0 : Nat} {h0 h : AH} {L : List (Nat × AO)} {O : List OS} {m : Nat} {ks : List Int} {x : Int} {K : Value × AH → Option β} (S : Stt Try.prog n0 h0 h ((m, .map (ents 0 ks) ks.length) :: L) O)
    (hk : ∀ h', Stt Try.prog n0 h0 h' ((m, .map (ents 0 (insK ks x)) (insK ks x).length) :: L) O → Tl (K (unk, h')) Q) : Tl (bnd (kSt (pUpdate Try.prog 52 (.map (some m)) (.int .i64 x) (.int .i64 1) h)) K) Q := by
  unfold Sh.insK at hk
  by_cases q : x ∈ ks
  · rw [if_pos q] at hk
    obtain ⟨j, _, h2, h3⟩ := find_yes x ks 0 0 q
    have e : pUpdate Try.prog 52 (.map (some m)) (.int .i64 x) (.int .i64 1) h = some (h.set m (.map (ents 0 ks) ks.length)) := by
      unfold pUpdate
      simp only [mapT52, u3, S.sta.mem.at_ (i := 0) rfl, keyOk, kn, Bool.and_self, if_true, h2]
      rw [Nat.sub_zero] at h3
      rw [h3]
    rw [e]
    exact hk _ (S.set 0 rfl _)
  · rw [if_neg q] at hk
    refine Tl.upd S 0 rfl mapT52 u3 rfl rfl (find_no x ks 0 0 q) fun h' S' => hk h' ?_
    have e := ents_snoc x ks 0
    rw [Nat.zero_add] at e
    rw [e, List.length_append]
    exact S'
theorem f6_keys {β : Type} {inv : Inv} {k : Nat} {Q : β → Prop} {n0 : Nat} {h0 : AH} {L : List (Nat × AO)} {m : Nat} {x0 x1 x2 x10 lv : Value} {l : List Int} (hl : l.length ≤ 2 ^ 30) {ke0 : Value → Value → Value → Value → Value → Value → Value → Value → Value → AH → Option β} (n : Nat) :
    ∀ {i j : Nat} {ks : List Int} {h : AH}, i + n = l.length → n < j → Stt Try.prog n0 h0 h ((m, .map (ents 0 ks) ks.length) :: L) [(lv, 1, irows l)] →
      (∀ y1 y2 y3 y4 h', Stt Try.prog n0 h0 h' ((m, .map (ents 0 ((l.drop i).foldl insK ks)) ((l.drop i).foldl insK ks).length) :: L) [(lv, 1, irows l)] → Tl (ke0 x0 x1 x2 x10 (.map (some m)) y1 y2 y3 y4 h') Q) →
      Tl (F6_lrlrrrrrrr inv k j x0 x1 x2 x10 (.map (some m)) lv (.int .i64 l.length) (.int .i64 i) h ke0) Q := by
  induction n with
  | zero =>
    intro i j ks h hi hj S hk
    obtain ⟨j, rfl⟩ : ∃ q, j = q + 1 := ⟨j - 1, by omega⟩
    simp only [F6_lrlrrrrrrr]
    repeat (first | (with_reducible apply Tl.val; focus (simp (disch := omega) only [coreA, Int.reduceBEq, base_P8] <;> with_reducible rfl)) | (with_reducible first | refine Tl.brT ?_ | refine Tl.brF ?_ | refine Tl.gd_on ?_ | refine Tl.gd3_on ?_) | ((with_reducible first | apply Tl.brC | apply Tl.gdC | apply Tl.gd3C); focus (simp (disch := omega) only [coreA, Int.reduceBEq, base_P8] <;> with_reducible rfl)))
    rw [List.drop_eq_nil_of_le (by omega)] at hk
    exact hk _ _ _ _ _ S
  | succ n ih =>
    intro i j ks h hi hj S hk
    obtain ⟨j, rfl⟩ : ∃ q, j = q + 1 := ⟨j - 1, by omega⟩
    obtain ⟨x, ex⟩ : ∃ x, l[i]? = some x := ⟨_, List.getElem?_eq_getElem (by omega)⟩
    obtain ⟨b, o, hp, hc⟩ := (show IntsZ h lv l from (S.slV 0 rfl).z).at_ ex
    have e : (i : Int) + 1 = ((i + 1 : Nat) : Int) := by omega
    rw [drop_at ex, List.foldl_cons] at hk
    simp only [F6_lrlrrrrrrr]
    repeat (first | (with_reducible apply Tl.val; focus (simp (disch := omega) only [coreA, Int.reduceBEq, base_P8, hp, hc] <;> with_reducible rfl)) | (with_reducible first | refine Tl.brT ?_ | refine Tl.brF ?_ | refine Tl.gd_on ?_ | refine Tl.gd3_on ?_) | ((with_reducible first | apply Tl.brC | apply Tl.gdC | apply Tl.gd3C); focus (simp (disch := omega) only [coreA, Int.reduceBEq, base_P8, hp, hc] <;> with_reducible rfl)))
    refine Tl.insK S fun h' S' => ?_
    repeat (first | (with_reducible apply Tl.val; focus (simp (disch := omega) only [coreA, Int.reduceBEq, base_P8] <;> with_reducible rfl)) | (with_reducible first | refine Tl.brT ?_ | refine Tl.brF ?_ | refine Tl.gd_on ?_ | refine Tl.gd3_on ?_) | ((with_reducible first | apply Tl.brC | apply Tl.gdC | apply Tl.gd3C); focus (simp (disch := omega) only [coreA, Int.reduceBEq, base_P8] <;> with_reducible rfl)))
    rw [e]
    exact ih (by omega) (by omega) S' hk
theorem f6_look {β : Type} {inv : Inv} {k : Nat} {Q : β → Prop} {h : AH} {m : Nat} {cv x1 x2 x10 lv : Value} {cols : List ColD} {ks cs : List Int} (C : Cols h cv cols) (I : IntsZ h lv cs) (hg : h.get m = some (.map (ents 0 ks) ks.length)) (hl : cs.length ≤ 2 ^ 30)
    (hin : ∀ x ∈ cs, x ∈ ks ∧ 0 ≤ x ∧ x < cols.length) (hr : cs.Pairwise (· < ·)) {ke2 : Value → Value → Value → Value → Value → Value → Value → Value → AH → Option β} {kr : Value → AH → Option β} (n : Nat) :
    ∀ {i j : Nat}, i + n = cs.length → n < j → (∀ y1 y2, Tl (ke2 cv x1 x2 x10 (.map (some m)) lv y1 y2 h) Q) → Tl (F6_lrlrrrrrrrrr inv k j cv x1 x2 x10 (.map (some m)) lv (.int .i64 i) h ke2 kr) Q := by
  have hv : ∀ h', pLen Try.prog #[46] lv h' = some (.int .i64 cs.length) := fun h' => I.len
  have hv2 : ∀ h', pLen Try.prog #[30] cv h' = some (.int .i64 cols.length) := fun h' => C.len
  induction n with
  | zero =>
    intro i j hi hj hk
    obtain ⟨j, rfl⟩ : ∃ q, j = q + 1 := ⟨j - 1, by omega⟩
    simp only [F6_lrlrrrrrrrrr]
    repeat (first | (with_reducible apply Tl.val; focus (simp (disch := omega) only [coreA, Int.reduceBEq, base_P8, hv] <;> with_reducible rfl)) | (with_reducible first | refine Tl.brT ?_ | refine Tl.brF ?_ | refine Tl.gd_on ?_ | refine Tl.gd3_on ?_) | ((with_reducible first | apply Tl.brC | apply Tl.gdC | apply Tl.gd3C); focus (simp (disch := omega) only [coreA, Int.reduceBEq, base_P8, hv] <;> with_reducible rfl)))
    exact hk _ _
  | succ n ih =>
    intro i j hi hj hk
    obtain ⟨j, rfl⟩ : ∃ q, j = q + 1 := ⟨j - 1, by omega⟩
    obtain ⟨x, ex⟩ : ∃ x, cs[i]? = some x := ⟨_, List.getElem?_eq_getElem (by omega)⟩
    obtain ⟨b, o, hp, hc⟩ := I.at_ ex
    obtain ⟨m1, m2, m3⟩ := hin x (List.mem_of_getElem? ex)
    obtain ⟨jx, _, hf, _⟩ := find_yes x ks 0 0 m1
    have hlk : pLookup Try.prog 52 (.map (some m)) (.int .i64 x) false h = some (.int .i64 1) := lookup_at hg mapT52 u3 rfl hf
    have e : (i : Int) + 1 = ((i + 1 : Nat) : Int) := by omega
    simp only [F6_lrlrrrrrrrrr]
    by_cases q : 0 < i
    · obtain ⟨p, ep⟩ : ∃ x, cs[i - 1]? = some x := ⟨_, List.getElem?_eq_getElem (by omega)⟩
      obtain ⟨b2, o2, hp2, hc2⟩ := I.at_ ep
      rw [show ((i - 1 : Nat) : Int) = (i : Int) - 1 by omega] at hp2
      have hpx : p < x := by
        have h1 := (List.getElem?_eq_some_iff.1 ep)
        have h2 := (List.getElem?_eq_some_iff.1 ex)
        obtain ⟨l1, rfl⟩ := h1
        obtain ⟨l2, rfl⟩ := h2
        exact List.pairwise_iff_getElem.1 hr _ _ l1 l2 (by omega)
      repeat (first | (with_reducible apply Tl.val; focus (simp (disch := omega) only [coreA, Int.reduceBEq, base_P8, hv, hv2, hp, hc, hlk, hp2, hc2] <;> with_reducible rfl)) | (with_reducible first | refine Tl.brT ?_ | refine Tl.brF ?_ | refine Tl.gd_on ?_ | refine Tl.gd3_on ?_) | ((with_reducible first | apply Tl.brC | apply Tl.gdC | apply Tl.gd3C); focus (simp (disch := omega) only [coreA, Int.reduceBEq, base_P8, hv, hv2, hp, hc, hlk, hp2, hc2] <;> with_reducible rfl)))
      rw [e]
      exact ih (by omega) (by omega) hk
    · repeat (first | (with_reducible apply Tl.val; focus (simp (disch := omega) only [coreA, Int.reduceBEq, base_P8, hv, hv2, hp, hc, hlk] <;> with_reducible rfl)) | (with_reducible first | refine Tl.brT ?_ | refine Tl.brF ?_ | refine Tl.gd_on ?_ | refine Tl.gd3_on ?_) | ((with_reducible first | apply Tl.brC | apply Tl.gdC | apply Tl.gd3C); focus (simp (disch := omega) only [coreA, Int.reduceBEq, base_P8, hv, hv2, hp, hc, hlk] <;> with_reducible rfl)))
      rw [e]
      exact ih (by omega) (by omega) hk
theorem bs45_2 (a : Option Addr) (m c : Nat) (a' : Option Addr) (m' c' : Nat) (h : AH) : pBuildSlice Try.prog 45 2 #[(0, .slice a m c), (1, .slice a' m' c')] h = some (.slice (some ⟨h.n, 0, none⟩) 2 2, h.alloc (.cells [.slice a m c, .slice a' m' c'] 22 true)) := by kernel_rfl
theorem Preds.form {h : AH} {v : Value} {l : List NodeD} (S : Preds h v l) : ∃ a m c, v = .slice a m c := by
  obtain ⟨rows, X, _⟩ := S
  obtain ⟨a, c, e, _⟩ := X.form
  exact ⟨a, _, c, e⟩
theorem fine_light {cols : List ColD} {l : List NodeD} (F : Fine cols l) (hl : l.length ≤ 64) : ∀ nd ∈ l, ∀ x ∈ nd.parts, -2 ^ 50 ≤ x ∧ x ≤ 2 ^ 50 := fun nd hnd x hx => by
  have := validF_mem l 0 F.valid x (List.mem_flatMap.2 ⟨nd, hnd, hx⟩)
  omega
theorem f6 {k : Nat} {h : AH} {cv va vb : Value} {cols : List ColD} {a b : List NodeD} (or : Bool) (C : Cols h cv cols) (A : Preds h va a) (B : Preds h vb b) (hcl : cols.length ≤ 9223372036854775807) (hal : a.length ≤ 9223372036854775807) (hbl : b.length ≤ 9223372036854775807)
    (hca : ∀ nd ∈ a, cellR nd.val) (hcb : ∀ nd ∈ b, cellR nd.val) (kc : cols.length < k) (ka : a.length < k) (kb : b.length < k) :
    Tl (F6 (eInv env (k + 3000)) (k + 3000) cv va vb (.bool or) h) fun r => r.1 = .bool true := by
  unfold F6
  have hlv := lives_call (k := k + 2999) (h := h)
  have p1 := f13c (k := k + 2999) C hcl (by omega)
  have p2 := f8c (k := k + 2999) A hal (by omega)
  have p3 := f8c (k := k + 2999) B hbl (by omega)
  have done : ∀ h' : AH, Tl (some (Value.bool true, h')) fun r => r.1 = Value.bool true := fun h' => ⟨_, rfl, rfl⟩
  cases q1 : lightC cols with
  | false =>
    rw [q1] at p1
    repeat (first | (with_reducible apply Tl.val; focus (simp (disch := omega) only [coreA, Int.reduceBEq, base_P8, hlv, p1] <;> with_reducible rfl)) | (with_reducible first | refine Tl.brT ?_ | refine Tl.brF ?_ | refine Tl.gd_on ?_ | refine Tl.gd3_on ?_) | ((with_reducible first | apply Tl.brC | apply Tl.gdC | apply Tl.gd3C); focus (simp (disch := omega) only [coreA, Int.reduceBEq, base_P8, hlv, p1] <;> with_reducible rfl)))
    exact done _
  | true =>
  rw [q1] at p1
  cases q2 : lightP a with
  | false =>
    rw [q2] at p2
    repeat (first | (with_reducible apply Tl.val; focus (simp (disch := omega) only [coreA, Int.reduceBEq, base_P8, hlv, p1, p2] <;> with_reducible rfl)) | (with_reducible first | refine Tl.brT ?_ | refine Tl.brF ?_ | refine Tl.gd_on ?_ | refine Tl.gd3_on ?_) | ((with_reducible first | apply Tl.brC | apply Tl.gdC | apply Tl.gd3C); focus (simp (disch := omega) only [coreA, Int.reduceBEq, base_P8, hlv, p1, p2] <;> with_reducible rfl)))
    exact done _
  | true =>
  rw [q2] at p2
  cases q3 : lightP b with
  | false =>
    rw [q3] at p3
    repeat (first | (with_reducible apply Tl.val; focus (simp (disch := omega) only [coreA, Int.reduceBEq, base_P8, hlv, p1, p2, p3] <;> with_reducible rfl)) | (with_reducible first | refine Tl.brT ?_ | refine Tl.brF ?_ | refine Tl.gd_on ?_ | refine Tl.gd3_on ?_) | ((with_reducible first | apply Tl.brC | apply Tl.gdC | apply Tl.gd3C); focus (simp (disch := omega) only [coreA, Int.reduceBEq, base_P8, hlv, p1, p2, p3] <;> with_reducible rfl)))
    exact done _
  | true =>
  rw [q3] at p3
  unfold lightP at q2 q3
  rw [Bool.and_eq_true, decide_eq_true_iff] at q2 q3
  have hpa : ∀ nd ∈ a, nd.parts.length ≤ 900 := fun nd hnd => by
    have := List.all_eq_true.1 q2.1 nd hnd
    simp [lightN] at this
    omega
  have hpb : ∀ nd ∈ b, nd.parts.length ≤ 900 := fun nd hnd => by
    have := List.all_eq_true.1 q3.1 nd hnd
    simp [lightN] at this
    omega
  have q22 := q2.2
  have q32 := q3.2
  repeat (first | (with_reducible apply Tl.val; focus (simp (disch := omega) only [coreA, Int.reduceBEq, base_P8, hlv, p1, p2, p3] <;> with_reducible rfl)) | (with_reducible first | refine Tl.brT ?_ | refine Tl.brF ?_ | refine Tl.gd_on ?_ | refine Tl.gd3_on ?_) | ((with_reducible first | apply Tl.brC | apply Tl.gdC | apply Tl.gd3C); focus (simp (disch := omega) only [coreA, Int.reduceBEq, base_P8, hlv, p1, p2, p3] <;> with_reducible rfl)))
  refine Tl.bind (f15c (k := k + 1700) C hcl A hal fun nd hnd => ⟨hpa nd hnd, hca nd hnd⟩) ?_
  rintro ⟨r, h1⟩ ⟨⟨e1, er, he1⟩, g1⟩
  simp only at er g1
  subst er
  by_cases qe1 : e1 = 0
  case neg =>
    repeat (first | (with_reducible apply Tl.val; focus (simp (disch := omega) only [coreA, Int.reduceBEq, base_P8] <;> with_reducible rfl)) | (with_reducible first | refine Tl.brT ?_ | refine Tl.brF ?_ | refine Tl.gd_on ?_ | refine Tl.gd3_on ?_) | ((with_reducible first | apply Tl.brC | apply Tl.gdC | apply Tl.gd3C); focus (simp (disch := omega) only [coreA, Int.reduceBEq, base_P8] <;> with_reducible rfl)))
    exact done _
  repeat (first | (with_reducible apply Tl.val; focus (simp (disch := omega) only [coreA, Int.reduceBEq, base_P8] <;> with_reducible rfl)) | (with_reducible first | refine Tl.brT ?_ | refine Tl.brF ?_ | refine Tl.gd_on ?_ | refine Tl.gd3_on ?_) | ((with_reducible first | apply Tl.brC | apply Tl.gdC | apply Tl.gd3C); focus (simp (disch := omega) only [coreA, Int.reduceBEq, base_P8] <;> with_reducible rfl)))
  refine Tl.bind (f15c (k := k + 1700) (C.grow g1) hcl (B.grow g1) hbl fun nd hnd => ⟨hpb nd hnd, hcb nd hnd⟩) ?_
  rintro ⟨r, h2⟩ ⟨⟨e2, er, he2⟩, g2⟩
  simp only at er g2
  subst er
  by_cases qe2 : e2 = 0
  case neg =>
    repeat (first | (with_reducible apply Tl.val; focus (simp (disch := omega) only [coreA, Int.reduceBEq, base_P8] <;> with_reducible rfl)) | (with_reducible first | refine Tl.brT ?_ | refine Tl.brF ?_ | refine Tl.gd_on ?_ | refine Tl.gd3_on ?_) | ((with_reducible first | apply Tl.brC | apply Tl.gdC | apply Tl.gd3C); focus (simp (disch := omega) only [coreA, Int.reduceBEq, base_P8] <;> with_reducible rfl)))
    exact done _
  obtain ⟨ca, _, Fa⟩ := predOk_iff.1 (he1.1 qe1)
  obtain ⟨_, _, Fb⟩ := predOk_iff.1 (he2.1 qe2)
  have g02 := g1.trans g2
  obtain ⟨fa, ma, cpa, rfl⟩ := A.form
  obtain ⟨fb, mb, cpb, rfl⟩ := B.form
  -- behind the operation
  have main : ∀ (op : Int) (y43 : Value), op = 6 ∨ op = 7 → Tl (bnd (pBuildSlice Try.prog 45 2 #[(0, .slice fa ma cpa), (1, .slice fb mb cpb)] h2) fun x47 =>
    bnd (eInv env (k + 3000) (.func 12) #[] #[.int .i64 op, x47.1] x47.2) fun x48 =>
    bnd (pMakeMap Try.prog 52 none x48.2) fun x49 =>
    bnd (pBuildSlice Try.prog 46 0 #[] x49.2) fun x50 =>
    bnd (eInv env (k + 3000) (.func 21) #[] #[.slice fa ma cpa] x50.2) fun x52 =>
    bnd (pAppend Try.prog #[46, 46] x50.1 x52.1 x52.2) fun x53 =>
    bnd (eInv env (k + 3000) (.func 21) #[] #[.slice fb mb cpb] x53.2) fun x55 =>
    bnd (pAppend Try.prog #[46, 46] x53.1 x55.1 x55.2) fun x56 =>
    bnd (pLen Try.prog #[46] x56.1 x56.2) fun x57 =>
    F6_lrlrrrrrrr (eInv env (k + 3000)) (k + 3000) (k + 3000) cv (.slice fa ma cpa) (.slice fb mb cpb) x48.1 x49.1 x56.1 x57 (.int .i64 0) x56.2
    (fun y0_2 y1_3 y2_4 y10 y11 y56 y57 y58 y59 h_5 =>
    bnd (eInv env (k + 3000) (.func 21) #[] #[y10] h_5) fun x66 =>
    F6_lrlrrrrrrrrr (eInv env (k + 3000)) (k + 3000) (k + 3000) y0_2 y1_3 y2_4 y10 y11 x66.1 (.int .i64 0) x66.2
    (fun y0_6 y1_7 y2_8 y10_9 y11_10 y14 y15 y70 h_11 =>
    G6_21 (eInv env (k + 3000)) y0_6 y1_7 y2_8 y10_9 y11_10 y14 h_11 fun y8 h_12 =>
    some (y8, h_12))
    (fun y8_13 h_14 =>
    some (y8_13, h_14)))) fun r => r.1 = .bool true := by
    intro op y43 ho
    have X : SlV Try.prog (h2.alloc (.cells [.slice fa ma cpa, .slice fb mb cpb] 22 true)) (.slice (some ⟨h2.n, 0, none⟩) 2 2) 1 [[.slice fa ma cpa], [.slice fb mb cpb]] :=
      .inr ⟨h2.n, 0, 2, true, rfl, Nat.le_refl _, ⟨⟨_, 22, AH.get_alloc_new _ _, fun _ => ⟨by simp, by simp⟩⟩, fun r hr => by simp at hr; rcases hr with rfl | rfl <;> rfl⟩⟩
    have ga := Grow.alloc h2 (.cells [.slice fa ma cpa, .slice fb mb cpb] 22 true)
    have hbs := bs45_2 fa ma cpa fb mb cpb h2
    generalize h2.alloc (.cells [.slice fa ma cpa, .slice fb mb cpb] 22 true) = h3 at X ga hbs
    have g03 := g02.trans ga
    repeat (first | (with_reducible apply Tl.val; focus (simp (disch := omega) only [coreA, Int.reduceBEq, base_P8, hbs] <;> with_reducible rfl)) | (with_reducible first | refine Tl.brT ?_ | refine Tl.brF ?_ | refine Tl.gd_on ?_ | refine Tl.gd3_on ?_) | ((with_reducible first | apply Tl.brC | apply Tl.gdC | apply Tl.gd3C); focus (simp (disch := omega) only [coreA, Int.reduceBEq, base_P8, hbs] <;> with_reducible rfl)))
    refine Tl.bind (f12c (k := k + 1900) (op := op) (vs := [.slice fa ma cpa, .slice fb mb cpb]) (ls := [a, b]) X.z ⟨A.grow g03, B.grow g03, trivial⟩ (by simp) fun l hl => ?_) ?_
    · simp at hl
      rcases hl with hl | hl <;> subst hl
      · exact ⟨by omega, fun nd hnd => ⟨hpa nd hnd, fine_light Fa (by omega) nd hnd⟩⟩
      · exact ⟨by omega, fun nd hnd => ⟨hpb nd hnd, fine_light Fb (by omega) nd hnd⟩⟩
    rintro ⟨lv, h4⟩ ⟨PL, g4⟩
    simp only at PL g4
    have g04 := g03.trans g4
    have hll := join2_len op a b
    have FJ := join_fine ho Fa Fb
    have hcj := fun x => cols_join ho (a := a) (b := b) (x := x)
    have hlight : ∀ nd ∈ joinL op [a, b], nd.parts.length ≤ 900 ∧ cellR nd.val := fun nd hnd => by
      rw [join2_eq] at hnd
      have hcore : ∀ l : List NodeD, (∀ nd ∈ l, nd.parts.length ≤ 900) → (∀ nd ∈ l, cellR nd.val) → ∀ nd ∈ core l, nd.parts.length ≤ 900 ∧ cellR nd.val := fun l h1 h2 nd hnd => by
        unfold core at hnd
        split at hnd
        · simp at hnd; subst hnd; exact ⟨by simp [opN], by unfold cellR opN cell0; simp⟩
        · exact ⟨h1 nd hnd, h2 nd hnd⟩
      rcases List.mem_append.1 hnd with hnd | hnd
      · rcases List.mem_append.1 hnd with hnd | hnd
        · exact hcore a hpa hca nd hnd
        · obtain ⟨m, hm, rfl⟩ := List.mem_map.1 hnd
          obtain ⟨i1, i2⟩ := hcore b hpb hcb m hm
          exact ⟨by simpa [shiftN] using i1, i2⟩
      · simp at hnd; subst hnd; exact ⟨by simp, by unfold cellR opN cell0; simp⟩
    have okJ : predOk cols (joinL op [a, b]) = true := predOk_iff.2 ⟨ca, by rw [hll]; omega, FJ⟩
    generalize joinL op [a, b] = lj at *
    refine Tl.mkmap (Stt.init h4) mapT52 fun m h5 S5 g5 => ?_
    have Xe : OwnB Try.prog h5.n (h5.alloc (.cells [] 3 true)) (.slice (some ⟨h5.n, 0, none⟩) 0 0) 1 [] :=
      .inr ⟨h5.n, Nat.le_refl _, ⟨rfl, ⟨⟨[], 3, AH.get_alloc_new _ _, fun hq => absurd rfl hq⟩, fun r hr => by cases hr⟩, szOk_of (AH.get_alloc_new _ _) sz3⟩⟩
    have S6 := S5.gain (Grow.alloc h5 _) Xe
    have hbs6 := bsI h5
    generalize h5.alloc (.cells [] 3 true) = h6 at S6 hbs6
    have S6 : Stt Try.prog h4.n h4 h6 [(m, .map (ents 0 []) ([] : List Int).length)] [(.slice (some ⟨h5.n, 0, none⟩) 0 0, 1, irows [])] := S6
    repeat (first | (with_reducible apply Tl.val; focus (simp (disch := omega) only [coreA, Int.reduceBEq, base_P8, hbs6] <;> with_reducible rfl)) | (with_reducible first | refine Tl.brT ?_ | refine Tl.brF ?_ | refine Tl.gd_on ?_ | refine Tl.gd3_on ?_) | ((with_reducible first | apply Tl.brC | apply Tl.gdC | apply Tl.gd3C); focus (simp (disch := omega) only [coreA, Int.reduceBEq, base_P8, hbs6] <;> with_reducible rfl)))
    refine Tl.bind (f21c (k := k + 1990) (A.grow (g04.trans S6.grow)) (by omega)) ?_
    rintro ⟨ra, h7⟩ ⟨RA, g7⟩
    simp only at RA g7
    have S7 := S6.call g7
    have lca : (colsM a).length ≤ 900 := by
      have h1 := compactL_len (sortedI (colsOf a))
      have h2 : (sortedI (colsOf a)).length = (colsOf a).length := by unfold sortedI; rw [List.length_mergeSort]
      have h3 := List.length_filter_le isCmp a
      unfold colsM
      unfold colsOf at h2 h1 ⊢
      rw [List.length_map] at h2
      omega
    have lcb : (colsM b).length ≤ 900 := by
      have h1 := compactL_len (sortedI (colsOf b))
      have h2 : (sortedI (colsOf b)).length = (colsOf b).length := by unfold sortedI; rw [List.length_mergeSort]
      have h3 := List.length_filter_le isCmp b
      unfold colsM
      unfold colsOf at h2 h1 ⊢
      rw [List.length_map] at h2
      omega
    obtain ⟨a1, h8, e8, S8⟩ := S7.appendZ 0 rfl app46 RA (by rw [irows_len, irows_len]; simp; omega) (one_irows _)
    have S8 : Stt Try.prog h4.n h4 h8 [(m, .map (ents 0 []) ([] : List Int).length)] [(a1, 1, irows ([] ++ colsM a))] := by
      have : irows ([] ++ colsM a) = irows [] ++ irows (colsM a) := by simp [irows]
      rw [this]; exact S8
    repeat (first | (with_reducible apply Tl.val; focus (simp (disch := omega) only [coreA, Int.reduceBEq, base_P8, e8] <;> with_reducible rfl)) | (with_reducible first | refine Tl.brT ?_ | refine Tl.brF ?_ | refine Tl.gd_on ?_ | refine Tl.gd3_on ?_) | ((with_reducible first | apply Tl.brC | apply Tl.gdC | apply Tl.gd3C); focus (simp (disch := omega) only [coreA, Int.reduceBEq, base_P8, e8] <;> with_reducible rfl)))
    refine Tl.bind (f21c (k := k + 1990) (B.grow (g04.trans S8.grow)) (by omega)) ?_
    rintro ⟨rb, h9⟩ ⟨RB, g9⟩
    simp only at RB g9
    have S9 := S8.call g9
    obtain ⟨a2, h10, e10, S10⟩ := S9.appendZ 0 rfl app46 RB (by rw [irows_len, irows_len]; simp; omega) (one_irows _)
    have S10 : Stt Try.prog h4.n h4 h10 [(m, .map (ents 0 []) ([] : List Int).length)] [(a2, 1, irows (colsM a ++ colsM b))] := by
      have : irows (colsM a ++ colsM b) = irows ([] ++ colsM a) ++ irows (colsM b) := by simp [irows]
      rw [this]; exact S10
    have hva : ∀ h', pLen Try.prog #[46] a2 h' = some (.int .i64 (colsM a ++ colsM b).length) := fun h' => (show IntsZ h10 a2 _ from (S10.slV 0 rfl).z).len
    repeat (first | (with_reducible apply Tl.val; focus (simp (disch := omega) only [coreA, Int.reduceBEq, base_P8, e10, hva] <;> with_reducible rfl)) | (with_reducible first | refine Tl.brT ?_ | refine Tl.brF ?_ | refine Tl.gd_on ?_ | refine Tl.gd3_on ?_) | ((with_reducible first | apply Tl.brC | apply Tl.gdC | apply Tl.gd3C); focus (simp (disch := omega) only [coreA, Int.reduceBEq, base_P8, e10, hva] <;> with_reducible rfl)))
    refine f6_keys (by simp; omega) (colsM a ++ colsM b).length (i := 0) (by omega) (by simp; omega) S10 fun y1 y2 y3 y4 h11 S11 => ?_
    rw [List.drop_zero] at S11
    have hkm := fun y => insL_mem (y := y) (colsM a ++ colsM b) []
    have hkn := insL_nodup (colsM a ++ colsM b) [] (by simp)
    generalize (colsM a ++ colsM b).foldl insK [] = ks at *
    refine Tl.bind (f21c (k := k + 1990) (PL.grow S11.grow) (by rw [hll]; omega)) ?_
    rintro ⟨rj, h12⟩ ⟨RJ, g12⟩
    simp only at RJ g12
    have S12 := S11.call g12
    have hsame : ∀ x, x ∈ ks ↔ x ∈ colsM lj := fun x => by
      rw [hkm, hcj, List.mem_append]
      simp
    have hkl := keys_len hkn (colsM_rise lj) hsame
    have lcj : (colsM lj).length ≤ 900 := by
      have h1 := compactL_len (sortedI (colsOf lj))
      have h2 : (sortedI (colsOf lj)).length = (colsOf lj).length := by unfold sortedI; rw [List.length_mergeSort]
      have h3 := List.length_filter_le isCmp lj
      unfold colsM
      unfold colsOf at h2 h1 ⊢
      rw [List.length_map] at h2
      omega
    have g0e := g04.trans S12.grow
    refine f6_look (C.grow g0e) RJ (S12.sta.mem.at_ (i := 0) rfl) (by omega) (fun x hx => ⟨(hsame x).2 hx, cols_range FJ hx⟩) (colsM_rise lj) (colsM lj).length (i := 0) (by omega) (by omega) fun y5 y6 => ?_
    have hv1 : ∀ h', pLen Try.prog #[46] rj h' = some (.int .i64 (colsM lj).length) := fun h' => RJ.len
    have hv2 : pLen Try.prog #[52] (.map (some m)) h12 = some (.int .i64 ks.length) := by
      have hu : Try.prog.underlying 52 = some (.map 3 3) := by kernel_rfl
      unfold pLen
      simp only [List.getElem?_toArray, List.getElem?_cons_zero, Option.bind_some, hu, S12.sta.mem.at_ (i := 0) rfl]
      rw [ents_len]
      rfl
    have hv3 : ∀ h', pLen Try.prog #[22] lv h' = some (.int .i64 lj.length) := fun h' => PL.len
    have hv4 : ∀ h', pLen Try.prog #[22] (.slice fa ma cpa) h' = some (.int .i64 a.length) := fun h' => A.len
    have hv5 : ∀ h', pLen Try.prog #[22] (.slice fb mb cpb) h' = some (.int .i64 b.length) := fun h' => B.len
    have hma : ∀ n : Nat, pMinMax Try.prog true #[.int .i64 1, .int .i64 (n : Int)] = some (.int .i64 ((max 1 n : Nat) : Int)) := fun n => by
      have e : ((max 1 n : Nat) : Int) = if (1 : Int) < (n : Int) then (n : Int) else 1 := by split <;> omega
      rw [e]
      exact bin_max
    have hkl' : ((colsM lj).length : Int) = (ks.length : Int) := by rw [hkl]
    have hll' : (lj.length : Int) = ((max 1 a.length : Nat) : Int) + ((max 1 b.length : Nat) : Int) + 1 := by rw [hll]; push_cast; rfl
    repeat (first | (with_reducible apply Tl.val; focus (simp (disch := omega) only [coreA, Int.reduceBEq, base_P8, hv1, hv2, hv3, hv4, hv5, hma] <;> with_reducible rfl)) | (with_reducible first | refine Tl.brT ?_ | refine Tl.brF ?_ | refine Tl.gd_on ?_ | refine Tl.gd3_on ?_) | ((with_reducible first | apply Tl.brC | apply Tl.gdC | apply Tl.gd3C); focus (simp (disch := omega) only [coreA, Int.reduceBEq, base_P8, hv1, hv2, hv3, hv4, hv5, hma] <;> with_reducible rfl)))
    refine Tl.bind (f15c (k := k + 1700) (C.grow g0e) hcl (PL.grow S12.grow) (by omega) hlight) ?_
    rintro ⟨r, h13⟩ ⟨⟨e3, er, he3⟩, g13⟩
    simp only at er g13
    subst er
    have qe3 := he3.2 okJ
    repeat (first | (with_reducible apply Tl.val; focus (simp (disch := omega) only [coreA, Int.reduceBEq, base_P8] <;> with_reducible rfl)) | (with_reducible first | refine Tl.brT ?_ | refine Tl.brF ?_ | refine Tl.gd_on ?_ | refine Tl.gd3_on ?_) | ((with_reducible first | apply Tl.brC | apply Tl.gdC | apply Tl.gd3C); focus (simp (disch := omega) only [coreA, Int.reduceBEq, base_P8] <;> with_reducible rfl)))
    exact done _
  cases or with
  | false =>
    unfold F6_rlrrrr
    repeat (first | (with_reducible apply Tl.val; focus (simp (disch := omega) only [coreA, Int.reduceBEq, base_P8] <;> with_reducible rfl)) | (with_reducible first | refine Tl.brT ?_ | refine Tl.brF ?_ | refine Tl.gd_on ?_ | refine Tl.gd3_on ?_) | ((with_reducible first | apply Tl.brC | apply Tl.gdC | apply Tl.gd3C); focus (simp (disch := omega) only [coreA, Int.reduceBEq, base_P8] <;> with_reducible rfl)))
    exact main 6 (.bool false) (.inl rfl)
  | true =>
    unfold F6_rlrrrr
    repeat (first | (with_reducible apply Tl.val; focus (simp (disch := omega) only [coreA, Int.reduceBEq, base_P8] <;> with_reducible rfl)) | (with_reducible first | refine Tl.brT ?_ | refine Tl.brF ?_ | refine Tl.gd_on ?_ | refine Tl.gd3_on ?_) | ((with_reducible first | apply Tl.brC | apply Tl.gdC | apply Tl.gd3C); focus (simp (disch := omega) only [coreA, Int.reduceBEq, base_P8] <;> with_reducible rfl)))
    exact main 7 unk (.inr rfl)
end Go.Proofs.Ytmhgihjmhmihpaa.Sh
