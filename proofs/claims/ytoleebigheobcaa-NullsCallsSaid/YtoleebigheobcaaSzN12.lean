/- The document's answer for flags: 'Get'; 'NullsCalls' comes to true. -/
import Derived.Test.YtoleebigheobcaaSzN11
set_option linter.unusedVariables false
set_option linter.unusedSimpArgs false
set_option maxRecDepth 100000
namespace Go.Proofs.Ytoleebigheobcaa.Sh
open Go Go.RowKit Go.Proofs.Ev
theorem base_N12 : type_of% (And.intro @ld3 (And.intro @ld4 (And.intro @ld5 (And.intro @ld22 (And.intro @ld25 (And.intro @ld32 (And.intro @ld49 (And.intro @ld52 (And.intro (fun a h => conv_int (a := a) (h := h) u3 u49) (And.intro (fun a h => conv_int (a := a) (h := h) u49 u3) (And.intro (fun a h => conv_int (a := a) (h := h) u3 u68) (And.intro (fun a h => conv_int (a := a) (h := h) u68 u3) (And.intro (fun ox oy a b => bin_eql_bool (ox := ox) (oy := oy) (a := a) (b := b) u4) (And.intro (fun ox oy a b => bin_neq_bool (ox := ox) (oy := oy) (a := a) (b := b) u4) (And.intro @ex2_0 (And.intro @ex2_1 (And.intro @ex3_0 (And.intro @ex3_1 (@ex3_2))))))))))))))))))) := And.intro @ld3 (And.intro @ld4 (And.intro @ld5 (And.intro @ld22 (And.intro @ld25 (And.intro @ld32 (And.intro @ld49 (And.intro @ld52 (And.intro (fun a h => conv_int (a := a) (h := h) u3 u49) (And.intro (fun a h => conv_int (a := a) (h := h) u49 u3) (And.intro (fun a h => conv_int (a := a) (h := h) u3 u68) (And.intro (fun a h => conv_int (a := a) (h := h) u68 u3) (And.intro (fun ox oy a b => bin_eql_bool (ox := ox) (oy := oy) (a := a) (b := b) u4) (And.intro (fun ox oy a b => bin_neq_bool (ox := ox) (oy := oy) (a := a) (b := b) u4) (And.intro @ex2_0 (And.intro @ex2_1 (And.intro @ex3_0 (And.intro @ex3_1 (@ex3_2))))))))))))))))))
theorem mk_u64 (t : TypeId) (l c : Int) (h : AH) : pMakeSlice Try.prog t (.int .u64 l) (.int .u64 c) h = pMakeSlice Try.prog t (.int .i64 l) (.int .i64 c) h := by
  unfold pMakeSlice
  cases elemT Try.prog t <;> rfl
section
variable {n0 : Nat} {h0 h : AH} {L : List (Nat × AO)} {O : List OS} {br : Nat} {rv : Value}
theorem f19_loop1 {β : Type} {k : Nat} {Q : β → Prop} {x0 x5 x8 lv gv : Value} {g : List Nat} {P1 : OS} {m : Nat} (hm : m ≤ 4096) (hg : g.length = m)
    {ke0 : Value → Value → Value → Value → Value → Value → Value → AH → Option β} (n : Nat) :
    ∀ {i j : Nat} {h : AH} {done : List Bool}, i + n = m → n < j → done.length = m → done.take i = (g.take i).map (· == 1) → Stt Try.prog n0 h0 h L [(gv, 1, u64rows g), P1, (lv, 1, brows done)] →
      (∀ h' y y', Stt Try.prog n0 h0 h' L [(gv, 1, u64rows g), P1, (lv, 1, brows (g.map (· == 1)))] → Tl (ke0 x0 x5 x8 lv gv y y' h') Q) →
      Tl (F19_lrrrrlrlrrrrrr (eInv env k) k j x0 x5 x8 lv gv (.int .i64 i) h ke0) Q := by
  induction n with
  | zero =>
    intro i j h done hi hj hd ht S hk
    obtain ⟨j, rfl⟩ : ∃ q, j = q + 1 := ⟨j - 1, by omega⟩
    have hlen : ∀ h', pLen Try.prog #[22] lv h' = some (.int .i64 m) := fun h' => by rw [← hd]; exact Sl1.len (S.sl1 (f := bv) 2 rfl) u22
    simp only [F19_lrrrrlrlrrrrrr]
    repeat (first | (with_reducible apply Tl.val; focus (simp (disch := omega) only [coreA, Int.reduceBEq, base_N12, hlen] <;> with_reducible rfl)) | (with_reducible first | refine Tl.brT ?_ | refine Tl.brF ?_ | refine Tl.gd_on ?_ | refine Tl.gd3_on ?_) | ((with_reducible first | apply Tl.brC | apply Tl.gdC | apply Tl.gd3C); focus (simp (disch := omega) only [coreA, Int.reduceBEq, base_N12, hlen] <;> with_reducible rfl)))
    rw [List.take_of_length_le (by omega), List.take_of_length_le (by omega)] at ht
    subst ht
    exact hk _ _ _ S
  | succ n ih =>
    intro i j h done hi hj hd ht S hk
    obtain ⟨j, rfl⟩ : ∃ q, j = q + 1 := ⟨j - 1, by omega⟩
    have hlen : ∀ h', pLen Try.prog #[22] lv h' = some (.int .i64 m) := fun h' => by rw [← hd]; exact Sl1.len (S.sl1 (f := bv) 2 rfl) u22
    obtain ⟨x, hx⟩ : ∃ x, g[i]? = some x := ⟨_, List.getElem?_eq_getElem (by omega)⟩
    obtain ⟨b, o, hp, hc1⟩ := Sl1.at_ (S.sl1 (f := u64v) 0 rfl) (t := 52) (k := .i64) hx u52 sz49
    have hc1 := hc1 h (Grow.refl _)
    obtain ⟨bm, em, hmm⟩ := S.idx (t := 22) 2 rfl (kd := .i64) (j := i) (by rw [brows_len]; omega) u22 sz4
    have e : (i : Int) + 1 = ((i + 1 : Nat) : Int) := by omega
    have eb : ((x : Int) == 1) = (x == 1) := by
      by_cases q : x = 1
      · subst q; rfl
      · have h1 : (x == 1) = false := by simpa using q
        have h2 : ((x : Int) == 1) = false := by simp; omega
        rw [h1, h2]
    simp only [F19_lrrrrlrlrrrrrr]
    repeat (first | (with_reducible apply Tl.val; focus (simp (disch := omega) only [coreA, Int.reduceBEq, base_N12, hlen, hp, hc1, u64v, hmm, eb] <;> with_reducible rfl)) | (with_reducible first | refine Tl.brT ?_ | refine Tl.brF ?_ | refine Tl.gd_on ?_ | refine Tl.gd3_on ?_) | ((with_reducible first | apply Tl.brC | apply Tl.gdC | apply Tl.gd3C); focus (simp (disch := omega) only [coreA, Int.reduceBEq, base_N12, hlen, hp, hc1, u64v, hmm, eb] <;> with_reducible rfl)))
    refine Tl.setAt S 2 rfl em (by rw [brows_len]; omega) rfl sz4 rfl fun h' S' => ?_
    repeat (first | (with_reducible apply Tl.val; focus (simp (disch := omega) only [coreA, Int.reduceBEq, base_N12] <;> with_reducible rfl)) | (with_reducible first | refine Tl.brT ?_ | refine Tl.brF ?_ | refine Tl.gd_on ?_ | refine Tl.gd3_on ?_) | ((with_reducible first | apply Tl.brC | apply Tl.gdC | apply Tl.gd3C); focus (simp (disch := omega) only [coreA, Int.reduceBEq, base_N12] <;> with_reducible rfl)))
    rw [e]
    refine ih (done := done.set i (x == 1)) (by omega) (by omega) (by simp [hd]) ?_ (by simpa [brows, bv, List.map_set, Value.cells] using S') hk
    have hti : g.take (i + 1) = g.take i ++ [x] := take_snoc hx
    rw [hti, List.map_append, ← ht]
    refine List.ext_getElem? fun q => ?_
    rw [List.getElem?_take, List.getElem?_set]
    by_cases q1 : q < i
    · rw [if_pos (by omega), if_neg (by omega), List.getElem?_append_left (by simp; omega), List.getElem?_take, if_pos q1]
    · by_cases q2 : q = i
      · subst q2
        rw [if_pos (by omega), if_pos rfl, if_pos (by omega), List.getElem?_append_right (by simp; omega)]
        simp [show min q done.length = q by omega]
      · rw [if_neg (by omega), List.getElem?_eq_none (by simp; omega)]
theorem f19_two {β : Type} {k : Nat} {Q : β → Prop} {x0 x5 lv : Value} {p m : Nat} (hm : m ≤ 4096) {ke2 : Value → Value → Value → Value → Value → Value → AH → Option β} (n : Nat) :
    ∀ {i j : Nat} {h : AH} {O : List OS}, i + n = m → n < j → Stt Try.prog n0 h0 h L O → O[p]? = some (lv, 1, brows (List.replicate i true ++ List.replicate n false)) →
      (∀ h' O' y y', Stt Try.prog n0 h0 h' L O' → O'[p]? = some (lv, 1, brows (List.replicate m true)) → Tl (ke2 x0 x5 (.int .u64 1) lv y y' h') Q) →
      Tl (F19_lrlrrrrrrr (eInv env k) k j x0 x5 (.int .u64 1) lv (.int .i64 i) h ke2) Q := by
  induction n with
  | zero =>
    intro i j h O hi hj S hO hk
    obtain ⟨j, rfl⟩ : ∃ q, j = q + 1 := ⟨j - 1, by omega⟩
    have hlen : ∀ h', pLen Try.prog #[22] lv h' = some (.int .i64 m) := fun h' => by
      have := SlV.len (S.slV p hO) u22 (h' := h')
      rw [brows_len] at this
      simp at this
      rw [this, ← hi]; simp
    simp only [F19_lrlrrrrrrr]
    repeat (first | (with_reducible apply Tl.val; focus (simp (disch := omega) only [coreA, Int.reduceBEq, base_N12, hlen] <;> with_reducible rfl)) | (with_reducible first | refine Tl.brT ?_ | refine Tl.brF ?_ | refine Tl.gd_on ?_ | refine Tl.gd3_on ?_) | ((with_reducible first | apply Tl.brC | apply Tl.gdC | apply Tl.gd3C); focus (simp (disch := omega) only [coreA, Int.reduceBEq, base_N12, hlen] <;> with_reducible rfl)))
    have : i = m := by omega
    subst this
    exact hk _ _ _ _ S (by simpa using hO)
  | succ n ih =>
    intro i j h O hi hj S hO hk
    obtain ⟨j, rfl⟩ : ∃ q, j = q + 1 := ⟨j - 1, by omega⟩
    have hlen : ∀ h', pLen Try.prog #[22] lv h' = some (.int .i64 m) := fun h' => by
      have := SlV.len (S.slV p hO) u22 (h' := h')
      rw [brows_len] at this
      simp only [List.length_append, List.length_replicate] at this
      rw [this, ← hi]
    obtain ⟨bm, em, hmm⟩ := S.idx (t := 22) p hO (kd := .i64) (j := i) (by rw [brows_len]; simp) u22 sz4
    have e : (i : Int) + 1 = ((i + 1 : Nat) : Int) := by omega
    simp only [F19_lrlrrrrrrr]
    repeat (first | (with_reducible apply Tl.val; focus (simp (disch := omega) only [coreA, Int.reduceBEq, base_N12, hlen, hmm] <;> with_reducible rfl)) | (with_reducible first | refine Tl.brT ?_ | refine Tl.brF ?_ | refine Tl.gd_on ?_ | refine Tl.gd3_on ?_) | ((with_reducible first | apply Tl.brC | apply Tl.gdC | apply Tl.gd3C); focus (simp (disch := omega) only [coreA, Int.reduceBEq, base_N12, hlen, hmm] <;> with_reducible rfl)))
    refine Tl.setAt S p hO em (by rw [brows_len]; simp) rfl sz4 rfl fun h' S' => ?_
    repeat (first | (with_reducible apply Tl.val; focus (simp (disch := omega) only [coreA, Int.reduceBEq, base_N12] <;> with_reducible rfl)) | (with_reducible first | refine Tl.brT ?_ | refine Tl.brF ?_ | refine Tl.gd_on ?_ | refine Tl.gd3_on ?_) | ((with_reducible first | apply Tl.brC | apply Tl.gdC | apply Tl.gd3C); focus (simp (disch := omega) only [coreA, Int.reduceBEq, base_N12] <;> with_reducible rfl)))
    rw [e]
    have hpl : p < O.length := (List.getElem?_eq_some_iff.1 hO).1
    refine ih (by omega) (by omega) S' ?_ hk
    rw [List.getElem?_set_self hpl]
    congr 3
    have es : (brows (List.replicate i true ++ List.replicate (n + 1) false)).set i (Value.bool true).cells.toList = brows ((List.replicate i true ++ List.replicate (n + 1) false).set i true) := by
      simp [brows, bv, List.map_set, Value.cells]
    have e2 : (List.replicate i true ++ List.replicate (n + 1) false).set i true = List.replicate (i + 1) true ++ List.replicate n false := by
      rw [List.set_append_right _ _ (by simp), List.replicate_succ, List.replicate_succ']
      simp
    exact es.trans (by rw [e2])
theorem f19_mid {β : Type} {k : Nat} {Q : β → Prop} {lv x0 : Value} {r2 : List Nat} {n form : Nat} (S : Stt Try.prog h0.n h0 h (Qb br rv :: L) [(lv, 1, brows (List.replicate n false))])
    (R : RV (Qb br rv :: L) 0 rv r2) (hn : n ≤ 4096) (hform : form ≤ 2) (hl : r2.length ≤ 500) (hb : ∀ x ∈ r2, x < 256)
    {kn : Value → Value → Value → Value → Value → Value → Value → Value → Value → AH → Option β} {kr : Value → Value → Value → AH → Option β}
    (hkn : ∀ l rest' rv' h' O' (i : Nat) y6 y13 y15 y49 y74, Stt Try.prog h0.n h0 h' (Qb br rv' :: L) O' → O'[i]? = some (lv, 1, brows (if form = 2 then l else List.replicate n false)) → RV (Qb br rv' :: L) 0 rv' rest' → mid n form r2 = some (l, rest') → l.length = n →
      Tl (kn x0 (ptr br) y6 (.int .u64 (form : Int)) lv y13 y15 y49 y74 h') Q)
    (hkr : mid n form r2 = none → ∀ h', Grow h0 h' → Tl (kr (.slice none 0 0) (.int .i64 0) (.int .i64 4) h') Q) :
    Tl (F19_rlrrrrrr (eInv env (k + 9000)) (k + 9000) x0 (ptr br) (.int .u64 (n : Int)) (.int .u64 (form : Int)) lv (.bool ((form : Int) == 2)) h kn kr) Q := by
  unfold F19_rlrrrrrr
  unfold mid at hkn hkr
  by_cases q2 : form = 2
  · simp only [if_pos q2] at hkn hkr
    have hsz : Pk.sizeE (n : Int) 1 = (szV n : Int) := by
      unfold Pk.sizeE
      have hmb : Pk.mayB (n : Int) 1 = true := Pk.mayB_mk (N := n) (W := 1) (by omega) (by omega)
      rw [if_pos hmb]
      rfl
    have hszl : szV n ≤ 520 := by unfold szV Pk.sizeN; omega
    have sz : eInv env (k + 9000) (.func 45) #[] #[.int .i64 (n : Int), .int .i64 1] h = some (.int .i64 (Pk.sizeE n 1), h) := Pk.f21g (k := k + 8998) (n : Int) 1 h
    rw [hsz] at sz
    repeat (first | (with_reducible apply Tl.val; focus (simp (disch := omega) only [coreA, Int.reduceBEq, base_N12, sz] <;> with_reducible rfl)) | (with_reducible first | refine Tl.brT ?_ | refine Tl.brF ?_ | refine Tl.gd_on ?_ | refine Tl.gd3_on ?_) | ((with_reducible first | apply Tl.brC | apply Tl.gdC | apply Tl.gd3C); focus (simp (disch := omega) only [coreA, Int.reduceBEq, base_N12, sz] <;> with_reducible rfl)))
    by_cases q3 : r2.length < szV n
    · rw [if_pos q3] at hkr
      have qb := f44n (k := k + 8999) S rfl R (n := (szV n : Int)) (by omega)
      repeat (first | (with_reducible apply Tl.val; focus (simp (disch := omega) only [coreA, Int.reduceBEq, base_N12, qb] <;> with_reducible rfl)) | (with_reducible first | refine Tl.brT ?_ | refine Tl.brF ?_ | refine Tl.gd_on ?_ | refine Tl.gd3_on ?_) | ((with_reducible first | apply Tl.brC | apply Tl.gdC | apply Tl.gd3C); focus (simp (disch := omega) only [coreA, Int.reduceBEq, base_N12, qb] <;> with_reducible rfl)))
      refine Tl.bind (psGet (k := k + 8910) (bs := []) (v := .slice none 0 0) (.inl ⟨rfl, rfl⟩) (by simp) (by simp) (n : Int) 1 (fun _ => by simp; omega) (by simp)) ?_
      rintro ⟨r, h2⟩ ⟨gv, er, g2, X⟩
      simp only at er g2 X
      subst er
      repeat (first | (with_reducible apply Tl.val; focus (simp (disch := omega) only [coreA, Int.reduceBEq, base_N12] <;> with_reducible rfl)) | (with_reducible first | refine Tl.brT ?_ | refine Tl.brF ?_ | refine Tl.gd_on ?_ | refine Tl.gd3_on ?_) | ((with_reducible first | apply Tl.brC | apply Tl.gdC | apply Tl.gd3C); focus (simp (disch := omega) only [coreA, Int.reduceBEq, base_N12] <;> with_reducible rfl)))
      exact hkr rfl _ (S.grow.trans g2)
    · simp only [if_neg q3] at hkn hkr
      refine Tl.bind (f44c (k := k + 8997) S rfl R (n := szV n) (by omega) (by omega)) ?_
      rintro ⟨r, h1⟩ ⟨pv, rv', er, S1, R1⟩
      simp only at er S1
      subst er
      have S1 : Stt Try.prog h0.n h0 h1 (Qb br rv' :: L) [(pv, 1, u8rows (r2.take (szV n))), (lv, 1, brows (List.replicate n false))] := S1
      have R1 : RV (Qb br rv' :: L) 0 rv' (r2.drop (szV n)) := R1
      repeat (first | (with_reducible apply Tl.val; focus (simp (disch := omega) only [coreA, Int.reduceBEq, base_N12] <;> with_reducible rfl)) | (with_reducible first | refine Tl.brT ?_ | refine Tl.brF ?_ | refine Tl.gd_on ?_ | refine Tl.gd3_on ?_) | ((with_reducible first | apply Tl.brC | apply Tl.gdC | apply Tl.gd3C); focus (simp (disch := omega) only [coreA, Int.reduceBEq, base_N12] <;> with_reducible rfl)))
      refine Tl.bind (psGet (k := k + 8910) (S1.sl1 (f := u8v) 0 rfl) (fun x hx => hb x (List.mem_of_mem_take hx)) (by simp; omega) (n : Int) 1 (fun _ => by simp; omega) (by simp; omega)) ?_
      rintro ⟨r, h2⟩ ⟨gv, er, g2, X⟩
      simp only at er g2 X
      subst er
      by_cases q4 : Pk.checkE (r2.take (szV n)) (n : Int) 1 = 0
      · simp only [if_neg (show ¬ Pk.checkE (r2.take (szV n)) (n : Int) 1 ≠ 0 from fun h => h q4)] at hkn
        have S2 := S1.gain g2 X
        have hgl : (Pk.getN (r2.take (szV n)) (n : Int) 1).length = n := by
          unfold Pk.getN
          rw [if_pos q4]
          simp [digs]
        rw [q4]
        repeat (first | (with_reducible apply Tl.val; focus (simp (disch := omega) only [coreA, Int.reduceBEq, base_N12] <;> with_reducible rfl)) | (with_reducible first | refine Tl.brT ?_ | refine Tl.brF ?_ | refine Tl.gd_on ?_ | refine Tl.gd3_on ?_) | ((with_reducible first | apply Tl.brC | apply Tl.gdC | apply Tl.gd3C); focus (simp (disch := omega) only [coreA, Int.reduceBEq, base_N12] <;> with_reducible rfl)))
        subst q2
        refine f19_loop1 hn hgl n (i := 0) (by omega) (by omega) (by simp) (by simp) S2 fun h3 y y' S3 => ?_
        exact hkn _ _ rv' h3 _ 2 _ _ _ _ _ S3 rfl R1 rfl (by rw [List.length_map, hgl])
      · rw [if_pos q4] at hkr
        repeat (first | (with_reducible apply Tl.val; focus (simp (disch := omega) only [coreA, Int.reduceBEq, base_N12] <;> with_reducible rfl)) | (with_reducible first | refine Tl.brT ?_ | refine Tl.brF ?_ | refine Tl.gd_on ?_ | refine Tl.gd3_on ?_) | ((with_reducible first | apply Tl.brC | apply Tl.gdC | apply Tl.gd3C); focus (simp (disch := omega) only [coreA, Int.reduceBEq, base_N12] <;> with_reducible rfl)))
        exact hkr rfl _ (S1.grow.trans g2)
  · simp only [if_neg q2] at hkn
    repeat (first | (with_reducible apply Tl.val; focus (simp (disch := omega) only [coreA, Int.reduceBEq, base_N12] <;> with_reducible rfl)) | (with_reducible first | refine Tl.brT ?_ | refine Tl.brF ?_ | refine Tl.gd_on ?_ | refine Tl.gd3_on ?_) | ((with_reducible first | apply Tl.brC | apply Tl.gdC | apply Tl.gd3C); focus (simp (disch := omega) only [coreA, Int.reduceBEq, base_N12] <;> with_reducible rfl)))
    exact hkn _ _ rv h _ 0 _ _ _ _ _ S rfl R rfl (by simp)
end
theorem f19c {k : Nat} {h : AH} {v : Value} {b : List Nat} (B : Bytes h v b) (hb : ∀ x ∈ b, x < 256) (hl : b.length ≤ 500) :
    Tl (eInv env (k + 9001) (.func 19) #[] #[v] h) fun r => (∃ l n lv, getV b = some (l, n) ∧ l.length ≤ 4096 ∧ r.1 = .tuple #[lv, .int .i64 n, .int .i64 0] ∧ Grow h r.2 ∧ OwnB Try.prog h.n r.2 lv 1 (brows l)) ∨
      (getV b = none ∧ r.1 = .tuple #[.slice none 0 0, .int .i64 0, .int .i64 4] ∧ Grow h r.2) := by
  rw [F19_call]
  unfold F19
  have eo : ((1 : Nat) : Int) = 1 := rfl
  refine Tl.bind (f41c (k := k + 8998) (Stt.init h) B (by omega)) ?_
  rintro ⟨x21, h1⟩ ⟨br, rv, L', e1, S1, R1, g1⟩
  simp only at e1 S1 g1
  subst e1
  rw [List.nil_append] at S1 R1
  refine Tl.bind (f42c (k := k + 8980) S1 rfl R1 (by omega) hb) ?_
  rintro ⟨r, h2⟩ hr
  unfold getV
  rcases hr with ⟨n, r1, rv2, hd, er, S2, R2⟩ | ⟨hd, e, he, er⟩
  · simp only at er S2
    subst er
    have S2 : Stt Try.prog h.n h h2 (Qb br rv2 :: L') [] := S2
    have R2 : RV (Qb br rv2 :: L') 0 rv2 r1 := R2
    obtain ⟨dl1, dl2⟩ := dec_len b hd
    rw [hd]
    simp only
    repeat (first | (with_reducible apply Tl.val; focus (simp (disch := omega) only [coreA, Int.reduceBEq, base_N12] <;> with_reducible rfl)) | (with_reducible first | refine Tl.brT ?_ | refine Tl.brF ?_ | refine Tl.gd_on ?_ | refine Tl.gd3_on ?_) | ((with_reducible first | apply Tl.brC | apply Tl.gdC | apply Tl.gd3C); focus (simp (disch := omega) only [coreA, Int.reduceBEq, base_N12] <;> with_reducible rfl)))
    cases r1 with
    | nil =>
      have T := f43n (k := k + 8977) S2 rfl R2 (n := 1) (by omega) (by omega) (by simp)
      rw [eo] at T
      repeat (first | (with_reducible apply Tl.val; focus (simp (disch := omega) only [coreA, Int.reduceBEq, base_N12, T] <;> with_reducible rfl)) | (with_reducible first | refine Tl.brT ?_ | refine Tl.brF ?_ | refine Tl.gd_on ?_ | refine Tl.gd3_on ?_) | ((with_reducible first | apply Tl.brC | apply Tl.gdC | apply Tl.gd3C); focus (simp (disch := omega) only [coreA, Int.reduceBEq, base_N12, T] <;> with_reducible rfl)))
      refine ⟨_, rfl, .inr ⟨?_, rfl, S2.grow⟩⟩
      split <;> rfl
    | cons form r2 =>
      have T := f43c (k := k + 8977) S2 rfl R2 (n := 1) (by omega) (by omega) (by simp) (by simp at dl1; simp; omega) (fun x hx => hb x (dl2 x hx))
      rw [eo] at T
      refine Tl.bind T ?_
      rintro ⟨r, h3⟩ ⟨rv3, er, S3, R3⟩
      simp only at er S3
      subst er
      have S3 : Stt Try.prog h.n h h3 (Qb br rv3 :: L') [] := S3
      have R3 : RV (Qb br rv3 :: L') 0 rv3 r2 := R3
      have ef : ofB ((form :: r2).take 1) = form := by simp [ofB]
      rw [ef]
      have hf256 := hb form (dl2 form (by simp))
      have dl3 : r2.length + 1 < b.length := by simpa using dl1
      by_cases qn : n > 4096
      · rw [if_pos qn]
        repeat (first | (with_reducible apply Tl.val; focus (simp (disch := omega) only [coreA, Int.reduceBEq, base_N12] <;> with_reducible rfl)) | (with_reducible first | refine Tl.brT ?_ | refine Tl.brF ?_ | refine Tl.gd_on ?_ | refine Tl.gd3_on ?_) | ((with_reducible first | apply Tl.brC | apply Tl.gdC | apply Tl.gd3C); focus (simp (disch := omega) only [coreA, Int.reduceBEq, base_N12] <;> with_reducible rfl)))
        exact ⟨_, rfl, .inr ⟨rfl, rfl, S3.grow⟩⟩
      · rw [if_neg qn]
        simp only
        by_cases qf : form > 2
        · rw [if_pos qf]
          repeat (first | (with_reducible apply Tl.val; focus (simp (disch := omega) only [coreA, Int.reduceBEq, base_N12] <;> with_reducible rfl)) | (with_reducible first | refine Tl.brT ?_ | refine Tl.brF ?_ | refine Tl.gd_on ?_ | refine Tl.gd3_on ?_) | ((with_reducible first | apply Tl.brC | apply Tl.gdC | apply Tl.gd3C); focus (simp (disch := omega) only [coreA, Int.reduceBEq, base_N12] <;> with_reducible rfl)))
          exact ⟨_, rfl, .inr ⟨rfl, rfl, S3.grow⟩⟩
        · rw [if_neg qf]
          repeat (first | (with_reducible apply Tl.val; focus (simp (disch := omega) only [coreA, Int.reduceBEq, base_N12] <;> with_reducible rfl)) | (with_reducible first | refine Tl.brT ?_ | refine Tl.brF ?_ | refine Tl.gd_on ?_ | refine Tl.gd3_on ?_) | ((with_reducible first | apply Tl.brC | apply Tl.gdC | apply Tl.gd3C); focus (simp (disch := omega) only [coreA, Int.reduceBEq, base_N12] <;> with_reducible rfl)))
          rw [mk_u64]
          refine Tl.make' S3 app22 ze4 (by omega) (by omega) fun lv h4 S4 g4 => ?_
          have S4 : Stt Try.prog h.n h h4 (Qb br rv3 :: L') [(lv, 1, brows (List.replicate n false))] := by
            have e : brows (List.replicate n false) = List.replicate n [.bool false] := by simp [brows, bv]
            rw [e]; exact S4
          repeat (first | (with_reducible apply Tl.val; focus (simp (disch := omega) only [coreA, Int.reduceBEq, base_N12] <;> with_reducible rfl)) | (with_reducible first | refine Tl.brT ?_ | refine Tl.brF ?_ | refine Tl.gd_on ?_ | refine Tl.gd3_on ?_) | ((with_reducible first | apply Tl.brC | apply Tl.gdC | apply Tl.gd3C); focus (simp (disch := omega) only [coreA, Int.reduceBEq, base_N12] <;> with_reducible rfl)))
          refine f19_mid (k := k) S4 R3 (by omega) (by omega) (by omega) (fun x hx => hb x (dl2 x (by simp [hx]))) ?_ ?_
          · intro l rest rv6 h6 O' i y6 y13 y15 y49 y74 S6 hO R6 hm hln
            have hml := mid_len hm
            rw [hm]
            simp only
            -- behind the second loop
            have go : ∀ (j : Nat) (hj : n < j + 1) (ke2 : Value → Value → Value → Value → Value → Value → AH → Option (Value × AH)) (Q : Value × AH → Prop), (∀ h' O'' y y', Stt Try.prog h.n h h' (Qb br rv6 :: L') O'' → O''[i]? = some (lv, 1, brows l) → Tl (ke2 v (ptr br) (.int .u64 (form : Int)) lv y y' h') Q) →
                Tl (F19_lrlrrrrrrr (eInv env (k + 9000)) (k + 9000) (j + 1) v (ptr br) (.int .u64 (form : Int)) lv (.int .i64 0) h6 ke2) Q := by
              intro j hj ke2 Q hk
              by_cases q1 : form = 1
              · subst q1
                rw [if_neg (by decide)] at hO
                have hlr : l = List.replicate n true := by
                  unfold mid at hm
                  rw [if_neg (by decide)] at hm
                  cases hm
                  rfl
                subst hlr
                exact f19_two (m := n) (by omega) n (i := 0) (by omega) (by omega) S6 (by simpa using hO) hk
              · have hlr : (if form = 2 then l else List.replicate n false) = l := by
                  by_cases q2 : form = 2
                  · rw [if_pos q2]
                  · rw [if_neg q2]
                    unfold mid at hm
                    rw [if_neg q2] at hm
                    cases hm
                    have : (form == 1) = false := by simpa using q1
                    rw [this]
                rw [hlr] at hO
                have hlen : ∀ h', pLen Try.prog #[22] lv h' = some (.int .i64 n) := fun h' => by
                  have := SlV.len (S6.slV i hO) u22 (h' := h')
                  rw [brows_len, hln] at this
                  exact this
                simp only [F19_lrlrrrrrrr]
                by_cases z : n = 0
                · repeat (first | (with_reducible apply Tl.val; focus (simp (disch := omega) only [coreA, Int.reduceBEq, base_N12, hlen] <;> with_reducible rfl)) | (with_reducible first | refine Tl.brT ?_ | refine Tl.brF ?_ | refine Tl.gd_on ?_ | refine Tl.gd3_on ?_) | ((with_reducible first | apply Tl.brC | apply Tl.gdC | apply Tl.gd3C); focus (simp (disch := omega) only [coreA, Int.reduceBEq, base_N12, hlen] <;> with_reducible rfl)))
                  exact hk _ _ _ _ S6 hO
                · repeat (first | (with_reducible apply Tl.val; focus (simp (disch := omega) only [coreA, Int.reduceBEq, base_N12, hlen] <;> with_reducible rfl)) | (with_reducible first | refine Tl.brT ?_ | refine Tl.brF ?_ | refine Tl.gd_on ?_ | refine Tl.gd3_on ?_) | ((with_reducible first | apply Tl.brC | apply Tl.gdC | apply Tl.gd3C); focus (simp (disch := omega) only [coreA, Int.reduceBEq, base_N12, hlen] <;> with_reducible rfl)))
                  exact hk _ _ _ _ S6 hO
            refine go (k + 8999) (by omega) _ _ fun h7 O7 y y' S7 hO7 => ?_
            have hv : ∀ h', pLen Try.prog #[32] v h' = some (.int .i64 b.length) := fun h' => B.len
            have left := f47c (k := k + 8999) S7 rfl R6
            have es : (b.length : Int) - (rest.length : Int) = ((b.length - rest.length : Nat) : Int) := by omega
            repeat (first | (with_reducible apply Tl.val; focus (simp (disch := omega) only [coreA, Int.reduceBEq, base_N12, hv, left] <;> with_reducible rfl)) | (with_reducible first | refine Tl.brT ?_ | refine Tl.brF ?_ | refine Tl.gd_on ?_ | refine Tl.gd3_on ?_) | ((with_reducible first | apply Tl.brC | apply Tl.gdC | apply Tl.gd3C); focus (simp (disch := omega) only [coreA, Int.reduceBEq, base_N12, hv, left] <;> with_reducible rfl)))
            refine Tl.bind (f18c (k := k + 8500) (S7.sl1 (f := bv) i hO7) (by omega) (by omega)) ?_
            rintro ⟨r, h8⟩ ⟨av, er, g8, X⟩
            simp only at er g8 X
            subst er
            have S8 := S7.gain g8 X
            obtain ⟨tv, ht, Bt⟩ := Bytes.takeS (B.grow S8.grow) (n := b.length - rest.length) (by omega)
            rw [← es] at ht
            have hpl : ∀ x ∈ putV l, x < 256 := fun x hx => by
              unfold putV at hx
              rcases List.mem_append.1 hx with hx | hx
              · exact pvarN_256 _ x hx
              · rcases List.mem_cons.1 hx with rfl | hx
                · have := formN_le l; omega
                · split at hx
                  · exact (putN_spec 1 _).2.2 x hx
                  · cases hx
            have hbt : ∀ x ∈ b.take (b.length - rest.length), x < 256 := fun x hx => hb x (List.mem_of_mem_take hx)
            have ca := convB (S8.sl1 (f := u8v) (l := putV l) 0 rfl)
            have cb := convB Bt
            have eq : ∀ t x y, pBin Try.prog Go.BinOp.neq t x y (.string (strB (putV l))) (.string (strB (b.take (b.length - rest.length)))) = some (.bool (!decide (putV l = b.take (b.length - rest.length)))) := fun t x y => by
              rw [bin_neq_string]
              congr 3
              by_cases q : putV l = b.take (b.length - rest.length)
              · simp [q]
              · have : ¬ strB (putV l) = strB (b.take (b.length - rest.length)) := fun h => q (strB_inj hpl hbt h)
                simp [q, this]
            by_cases q : putV l = b.take (b.length - rest.length)
            · rw [if_pos q]
              rw [decide_eq_true q] at eq
              repeat (first | (with_reducible apply Tl.val; focus (simp (disch := omega) only [coreA, Int.reduceBEq, base_N12, ca, cb, ht, eq] <;> with_reducible rfl)) | (with_reducible first | refine Tl.brT ?_ | refine Tl.brF ?_ | refine Tl.gd_on ?_ | refine Tl.gd3_on ?_) | ((with_reducible first | apply Tl.brC | apply Tl.gdC | apply Tl.gd3C); focus (simp (disch := omega) only [coreA, Int.reduceBEq, base_N12, ca, cb, ht, eq] <;> with_reducible rfl)))
              rw [es]
              exact ⟨_, rfl, .inl ⟨l, _, lv, rfl, by omega, rfl, S8.grow, S8.ret (i + 1) (by simpa using hO7)⟩⟩
            · rw [if_neg q]
              rw [decide_eq_false q] at eq
              repeat (first | (with_reducible apply Tl.val; focus (simp (disch := omega) only [coreA, Int.reduceBEq, base_N12, ca, cb, ht, eq] <;> with_reducible rfl)) | (with_reducible first | refine Tl.brT ?_ | refine Tl.brF ?_ | refine Tl.gd_on ?_ | refine Tl.gd3_on ?_) | ((with_reducible first | apply Tl.brC | apply Tl.gdC | apply Tl.gd3C); focus (simp (disch := omega) only [coreA, Int.reduceBEq, base_N12, ca, cb, ht, eq] <;> with_reducible rfl)))
              exact ⟨_, rfl, .inr ⟨rfl, rfl, S8.grow⟩⟩
          · intro hm h6 g6
            rw [hm]
            exact ⟨_, rfl, .inr ⟨rfl, rfl, g6⟩⟩
  · cases er
    rw [hd]
    repeat (first | (with_reducible apply Tl.val; focus (simp (disch := omega) only [coreA, Int.reduceBEq, base_N12] <;> with_reducible rfl)) | (with_reducible first | refine Tl.brT ?_ | refine Tl.brF ?_ | refine Tl.gd_on ?_ | refine Tl.gd3_on ?_) | ((with_reducible first | apply Tl.brC | apply Tl.gdC | apply Tl.gd3C); focus (simp (disch := omega) only [coreA, Int.reduceBEq, base_N12] <;> with_reducible rfl)))
    by_cases hb1 : b.length < 1
    · have T := f43n (k := k + 8977) S1 rfl R1 (n := 1) (by omega) (by omega) hb1
      rw [eo] at T
      repeat (first | (with_reducible apply Tl.val; focus (simp (disch := omega) only [coreA, Int.reduceBEq, base_N12, T] <;> with_reducible rfl)) | (with_reducible first | refine Tl.brT ?_ | refine Tl.brF ?_ | refine Tl.gd_on ?_ | refine Tl.gd3_on ?_) | ((with_reducible first | apply Tl.brC | apply Tl.gdC | apply Tl.gd3C); focus (simp (disch := omega) only [coreA, Int.reduceBEq, base_N12, T] <;> with_reducible rfl)))
      exact ⟨_, rfl, .inr ⟨rfl, rfl, S1.grow⟩⟩
    · have T := f43c (k := k + 8977) S1 rfl R1 (n := 1) (by omega) (by omega) (by omega) (by omega) hb
      rw [eo] at T
      refine Tl.bind T ?_
      rintro ⟨r, h3⟩ ⟨rv3, er, S3, R3⟩
      simp only at er S3
      subst er
      have S3 : Stt Try.prog h.n h h3 (Qb br rv3 :: L') [] := S3
      repeat (first | (with_reducible apply Tl.val; focus (simp (disch := omega) only [coreA, Int.reduceBEq, base_N12] <;> with_reducible rfl)) | (with_reducible first | refine Tl.brT ?_ | refine Tl.brF ?_ | refine Tl.gd_on ?_ | refine Tl.gd3_on ?_) | ((with_reducible first | apply Tl.brC | apply Tl.gdC | apply Tl.gd3C); focus (simp (disch := omega) only [coreA, Int.reduceBEq, base_N12] <;> with_reducible rfl)))
      exact ⟨_, rfl, .inr ⟨rfl, rfl, S3.grow⟩⟩
/-- 'NullsCalls'. -/
theorem f7 {k : Nat} {h : AH} {v w : Value} {l : List Bool} {b : List Nat} (A : Bools h v l) (B : Bytes h w b) (hb : ∀ x ∈ b, x < 256) (values : Int) :
    Tl (F7 (eInv env (k + 20000)) (k + 20000) v w (.int .i64 values) h) fun r => r.1 = .bool true := by
  unfold F7
  have hv : ∀ h', pLen Try.prog #[22] v h' = some (.int .i64 l.length) := fun h' => Sl1.len A u22
  have hw : ∀ h', pLen Try.prog #[32] w h' = some (.int .i64 b.length) := fun h' => B.len
  by_cases h1 : l.length ≤ 300
  · by_cases h2 : b.length ≤ 300
    · repeat (first | (with_reducible apply Tl.val; focus (simp (disch := omega) only [coreA, Int.reduceBEq, base_N12, lives_call, hv, hw] <;> with_reducible rfl)) | (with_reducible first | refine Tl.brT ?_ | refine Tl.brF ?_ | refine Tl.gd_on ?_ | refine Tl.gd3_on ?_) | ((with_reducible first | apply Tl.brC | apply Tl.gdC | apply Tl.gd3C); focus (simp (disch := omega) only [coreA, Int.reduceBEq, base_N12, lives_call, hv, hw] <;> with_reducible rfl)))
      refine Tl.bind (f14c (k := k + 19500) A (by omega) (by omega)) ?_
      rintro ⟨r, h3⟩ ⟨xv, er, g3, X⟩
      simp only at er g3 X
      subst er
      have S3 := (Stt.init h : Stt Try.prog h.n h h [] []).gain g3 X
      repeat (first | (with_reducible apply Tl.val; focus (simp (disch := omega) only [coreA, Int.reduceBEq, base_N12] <;> with_reducible rfl)) | (with_reducible first | refine Tl.brT ?_ | refine Tl.brF ?_ | refine Tl.gd_on ?_ | refine Tl.gd3_on ?_) | ((with_reducible first | apply Tl.brC | apply Tl.gdC | apply Tl.gd3C); focus (simp (disch := omega) only [coreA, Int.reduceBEq, base_N12] <;> with_reducible rfl)))
      refine Tl.bind (f18c (k := k + 19500) (A.grow S3.grow) (by omega) (by omega)) ?_
      rintro ⟨r, h4⟩ ⟨yv, er, g4, X⟩
      simp only at er g4 X
      subst er
      have S4 := S3.gain g4 X
      repeat (first | (with_reducible apply Tl.val; focus (simp (disch := omega) only [coreA, Int.reduceBEq, base_N12] <;> with_reducible rfl)) | (with_reducible first | refine Tl.brT ?_ | refine Tl.brF ?_ | refine Tl.gd_on ?_ | refine Tl.gd3_on ?_) | ((with_reducible first | apply Tl.brC | apply Tl.gdC | apply Tl.gd3C); focus (simp (disch := omega) only [coreA, Int.reduceBEq, base_N12] <;> with_reducible rfl)))
      have hpl := putV_len (l := l) (by omega)
      -- what is got, either way
      have two : ∃ (m : List Bool) (n e : Int), m.length ≤ 4096 ∧ ∀ {h' : AH}, Grow h h' →
          (Tl (eInv env (k + 20000) (.func 15) #[] #[w] h') fun r => ∃ o, r.1 = .tuple #[o, .int .i64 n, .int .i64 e] ∧ Grow h' r.2 ∧ Bools r.2 o m) ∧
          Tl (eInv env (k + 20000) (.func 19) #[] #[w] h') fun r => ∃ o, r.1 = .tuple #[o, .int .i64 n, .int .i64 e] ∧ Grow h' r.2 ∧ Bools r.2 o m := by
        cases hg : getV b with
        | none =>
          refine ⟨[], 0, 4, by simp, fun {h'} g => ⟨?_, ?_⟩⟩
          · refine (f15c (k := k + 19000) (B.grow g) hb (by omega) (by omega)).mono ?_
            rintro r (⟨l, n, lv, hg2, _⟩ | ⟨_, er, g⟩)
            · rw [hg] at hg2; cases hg2
            · exact ⟨_, er, g, .inl ⟨rfl, rfl⟩⟩
          · refine (f19c (k := k + 10999) (B.grow g) hb (by omega)).mono ?_
            rintro r (⟨l, n, lv, hg2, _⟩ | ⟨_, er, g⟩)
            · rw [hg] at hg2; cases hg2
            · exact ⟨_, er, g, .inl ⟨rfl, rfl⟩⟩
        | some p =>
          obtain ⟨m, n⟩ := p
          have hm : m.length ≤ 4096 := by
            unfold getV at hg
            split at hg
            · cases hg
            · split at hg
              · cases hg
              · split at hg
                · cases hg
                · split at hg
                  · cases hg
                  · split at hg
                    · cases hg
                    · rename_i hk
                      split at hg
                      · cases hg
                        unfold mid at hk
                        split at hk
                        · split at hk
                          · cases hk
                          · split at hk
                            · cases hk
                            · cases hk
                              rw [List.length_map]
                              unfold Pk.getN
                              split
                              · rw [digs_len]; simp; omega
                              · simp
                        · cases hk
                          simp; omega
                      · cases hg
          refine ⟨m, n, 0, hm, fun {h'} g => ⟨?_, ?_⟩⟩
          · refine (f15c (k := k + 19000) (B.grow g) hb (by omega) (by omega)).mono ?_
            rintro r (⟨l, n, lv, hg2, hl, er, g, X⟩ | ⟨hg2, er, g⟩)
            · rw [hg] at hg2; cases hg2
              exact ⟨lv, er, g, X.slV⟩
            · rw [hg] at hg2; cases hg2
          · refine (f19c (k := k + 10999) (B.grow g) hb (by omega)).mono ?_
            rintro r (⟨l, n, lv, hg2, hl, er, g, X⟩ | ⟨hg2, er, g⟩)
            · rw [hg] at hg2; cases hg2
              exact ⟨lv, er, g, X.slV⟩
            · rw [hg] at hg2; cases hg2
      obtain ⟨m, n, e, hm, G⟩ := two
      refine Tl.bind (G S4.grow).1 ?_
      rintro ⟨r, h5⟩ ⟨uv, er, g5, B5⟩
      simp only at er g5 B5
      subst er
      have S5 := S4.call g5
      repeat (first | (with_reducible apply Tl.val; focus (simp (disch := omega) only [coreA, Int.reduceBEq, base_N12] <;> with_reducible rfl)) | (with_reducible first | refine Tl.brT ?_ | refine Tl.brF ?_ | refine Tl.gd_on ?_ | refine Tl.gd3_on ?_) | ((with_reducible first | apply Tl.brC | apply Tl.gdC | apply Tl.gd3C); focus (simp (disch := omega) only [coreA, Int.reduceBEq, base_N12] <;> with_reducible rfl)))
      refine Tl.bind (G S5.grow).2 ?_
      rintro ⟨r, h6⟩ ⟨zv, er, g6, B6⟩
      simp only at er g6 B6
      subst er
      have S6 := S5.call g6
      have B5 : Bools h6 uv m := Sl1.grow B5 g6
      repeat (first | (with_reducible apply Tl.val; focus (simp (disch := omega) only [coreA, Int.reduceBEq, base_N12] <;> with_reducible rfl)) | (with_reducible first | refine Tl.brT ?_ | refine Tl.brF ?_ | refine Tl.gd_on ?_ | refine Tl.gd3_on ?_) | ((with_reducible first | apply Tl.brC | apply Tl.gdC | apply Tl.gd3C); focus (simp (disch := omega) only [coreA, Int.reduceBEq, base_N12] <;> with_reducible rfl)))
      refine Tl.bind (f11c (k := k + 19980) (A.grow S6.grow) (by omega) (by omega)) ?_
      rintro ⟨r, h7⟩ ⟨nv, sv, er, S7⟩
      simp only at er S7
      subst er
      have g7 := S7.grow
      have S8 := S6.call g7
      have B5 : Bools h7 uv m := Sl1.grow B5 g7
      have B6 : Bools h7 zv m := Sl1.grow B6 g7
      have s1 := f17c (k := k + 19999) (S8.sl1 (f := u8v) 1 rfl) (S8.sl1 (f := u8v) 0 rfl) (by omega) (by omega) (by omega)
      have s2 := f12c (k := k + 19999) B5 B6 (by omega) (by omega) (by omega)
      rw [decide_eq_true rfl] at s1 s2
      have c1 := f9c (k := k + 19998) (A.grow S8.grow) (by omega) (by omega)
      have c2 := f20c (k := k + 19999) (A.grow S8.grow) (by omega) (by omega)
      have hsp : (spreadV l values).length ≤ 300 := by
        unfold spreadV
        split
        · rw [spreadL_len]; omega
        · simp
      have hln := lens_len l
      repeat (first | (with_reducible apply Tl.val; focus (simp (disch := omega) only [coreA, Int.reduceBEq, base_N12, s1, s2, c1, c2] <;> with_reducible rfl)) | (with_reducible first | refine Tl.brT ?_ | refine Tl.brF ?_ | refine Tl.gd_on ?_ | refine Tl.gd3_on ?_) | ((with_reducible first | apply Tl.brC | apply Tl.gdC | apply Tl.gd3C); focus (simp (disch := omega) only [coreA, Int.reduceBEq, base_N12, s1, s2, c1, c2] <;> with_reducible rfl)))
      refine Tl.callO S8 (f10c (k := k + 19997) (A.grow S8.grow) (by omega) (by omega) values) fun a1 h9 S9 g9 => ?_
      repeat (first | (with_reducible apply Tl.val; focus (simp (disch := omega) only [coreA, Int.reduceBEq, base_N12] <;> with_reducible rfl)) | (with_reducible first | refine Tl.brT ?_ | refine Tl.brF ?_ | refine Tl.gd_on ?_ | refine Tl.gd3_on ?_) | ((with_reducible first | apply Tl.brC | apply Tl.gdC | apply Tl.gd3C); focus (simp (disch := omega) only [coreA, Int.reduceBEq, base_N12] <;> with_reducible rfl)))
      refine Tl.callO S9 (f21c (k := k + 19997) (A.grow S9.grow) (by omega) (by omega) values) fun a2 h10 S10 g10 => ?_
      have s3 := f13c (k := k + 19999) (S10.sl1 (f := iv) 1 rfl) (S10.sl1 (f := iv) 0 rfl) (by omega) (by omega) (by omega)
      rw [decide_eq_true rfl] at s3
      repeat (first | (with_reducible apply Tl.val; focus (simp (disch := omega) only [coreA, Int.reduceBEq, base_N12, s3] <;> with_reducible rfl)) | (with_reducible first | refine Tl.brT ?_ | refine Tl.brF ?_ | refine Tl.gd_on ?_ | refine Tl.gd3_on ?_) | ((with_reducible first | apply Tl.brC | apply Tl.gdC | apply Tl.gd3C); focus (simp (disch := omega) only [coreA, Int.reduceBEq, base_N12, s3] <;> with_reducible rfl)))
      refine Tl.callO S10 (f22c (k := k + 19999) (A.grow S10.grow) (by omega) (by omega)) fun a3 h11 S11 g11 => ?_
      have N1 : Nums h11 nv (lens (runsL l)) := Sl1.grow (S7.sl1 (f := iv) 0 rfl) ((g9.trans g10).trans g11)
      have s4 := f13c (k := k + 19999) N1 (S11.sl1 (f := iv) 0 rfl) (by omega) (by omega) (by omega)
      rw [decide_eq_true rfl] at s4
      repeat (first | (with_reducible apply Tl.val; focus (simp (disch := omega) only [coreA, Int.reduceBEq, base_N12, s4] <;> with_reducible rfl)) | (with_reducible first | refine Tl.brT ?_ | refine Tl.brF ?_ | refine Tl.gd_on ?_ | refine Tl.gd3_on ?_) | ((with_reducible first | apply Tl.brC | apply Tl.gdC | apply Tl.gd3C); focus (simp (disch := omega) only [coreA, Int.reduceBEq, base_N12, s4] <;> with_reducible rfl)))
      exact ⟨_, rfl, rfl⟩
    · repeat (first | (with_reducible apply Tl.val; focus (simp (disch := omega) only [coreA, Int.reduceBEq, base_N12, lives_call, hv, hw] <;> with_reducible rfl)) | (with_reducible first | refine Tl.brT ?_ | refine Tl.brF ?_ | refine Tl.gd_on ?_ | refine Tl.gd3_on ?_) | ((with_reducible first | apply Tl.brC | apply Tl.gdC | apply Tl.gd3C); focus (simp (disch := omega) only [coreA, Int.reduceBEq, base_N12, lives_call, hv, hw] <;> with_reducible rfl)))
      exact ⟨_, rfl, rfl⟩
  · repeat (first | (with_reducible apply Tl.val; focus (simp (disch := omega) only [coreA, Int.reduceBEq, base_N12, lives_call, hv, hw] <;> with_reducible rfl)) | (with_reducible first | refine Tl.brT ?_ | refine Tl.brF ?_ | refine Tl.gd_on ?_ | refine Tl.gd3_on ?_) | ((with_reducible first | apply Tl.brC | apply Tl.gdC | apply Tl.gd3C); focus (simp (disch := omega) only [coreA, Int.reduceBEq, base_N12, lives_call, hv, hw] <;> with_reducible rfl)))
    exact ⟨_, rfl, rfl⟩
end Go.Proofs.Ytoleebigheobcaa.Sh
