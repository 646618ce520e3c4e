/- Texts that are read: 'read', 'words'. -/
import Derived.Test.YtagcejlclcldcaaSzXd
import Derived.Test.YtagcejlclcldcaaSzBs
set_option linter.unusedVariables false
set_option linter.unusedSimpArgs false
set_option maxRecDepth 100000
namespace Go.Proofs.Ytagcejlclcldcaa.Sh
open Go Go.RowKit Go.Proofs.Ev
theorem base_Xe : type_of% (And.intro @ld3 (And.intro @ld4 (And.intro @ld9 (And.intro @ld22 (And.intro @ld30 (And.intro @ld48 (And.intro @ld50 (And.intro (fun a h => conv_int (a := a) (h := h) u3 u48) (And.intro (fun a h => conv_int (a := a) (h := h) u48 u3) (And.intro (fun ox oy a b => bin_eql_bool (ox := ox) (oy := oy) (a := a) (b := b) u4) (And.intro @Nat.add_zero (And.intro @ex2_0 (@ex2_1))))))))))))) := And.intro @ld3 (And.intro @ld4 (And.intro @ld9 (And.intro @ld22 (And.intro @ld30 (And.intro @ld48 (And.intro @ld50 (And.intro (fun a h => conv_int (a := a) (h := h) u3 u48) (And.intro (fun a h => conv_int (a := a) (h := h) u48 u3) (And.intro (fun ox oy a b => bin_eql_bool (ox := ox) (oy := oy) (a := a) (b := b) u4) (And.intro @Nat.add_zero (And.intro @ex2_0 (@ex2_1))))))))))))
theorem set_same {α : Type} {l : List α} {i : Nat} {a : α} (h : l[i]? = some a) : l.set i a = l := by
  refine List.ext_getElem? fun k => ?_
  rw [List.getElem?_set]
  split
  · rename_i hk
    subst hk
    have hlt := (List.getElem?_eq_some_iff.1 h).1
    rw [if_pos hlt, h]
  · rfl
theorem decT_len : ∀ (b : List Nat) {i acc v : Nat} {rest : List Nat}, dec i acc b = some (v, rest) → rest.length < b.length ∧ ∀ x ∈ rest, x ∈ b := by
  intro b
  induction b with
  | nil => intro i acc v rest h; simp [dec] at h
  | cons c b ih =>
    intro i acc v rest h
    rw [dec] at h
    split at h
    · cases h
    · split at h
      · cases h
      · split at h
        · obtain ⟨h1, h2⟩ := ih h
          exact ⟨by simp; omega, fun x hx => List.mem_cons_of_mem _ (h2 x hx)⟩
        · split at h
          · cases h
          · cases h
            exact ⟨by simp, fun x hx => List.mem_cons_of_mem _ hx⟩
def readT : Nat → List Nat → Option (List ByteArray × List Nat)
  | 0, r => some ([], r)
  | n + 1, r => match dec 0 0 r with
    | none => none
    | some (s, r1) => if s > 65536 ∨ r1.length < s then none else (readT n (r1.drop s)).map fun p => (strB (r1.take s) :: p.1, p.2)
def lookT (w : List ByteArray) : List Nat → Option (List ByteArray)
  | [] => some []
  | i :: l => match w[i]? with
    | none => none
    | some s => (lookT w l).map (s :: ·)
def wordsT (n : Nat) (r : List Nat) : Option (List ByteArray) := match dec 0 0 r with
  | none => none
  | some (k, r1) => if k > n then none else match readT k r1 with
    | none => none
    | some (w, r2) => match r2 with
      | [] => none
      | wd :: r3 => if Pk.checkE r3 (n : Int) (wd : Int) ≠ 0 then none else lookT w (Pk.getN r3 (n : Int) (wd : Int))
theorem readT_len : ∀ (n : Nat) {r : List Nat} {l : List ByteArray} {r' : List Nat}, readT n r = some (l, r') → l.length = n ∧ r'.length ≤ r.length ∧ ∀ x ∈ r', x ∈ r := by
  intro n
  induction n with
  | zero => intro r l r' h; cases h; exact ⟨rfl, Nat.le_refl _, fun x hx => hx⟩
  | succ n ih =>
    intro r l r' h
    unfold readT at h
    split at h
    · cases h
    · rename_i s r1 hd
      split at h
      · cases h
      · obtain ⟨⟨l2, r2⟩, h1, h2⟩ := Option.map_eq_some_iff.1 h
        cases h2
        obtain ⟨i1, i2, i3⟩ := ih h1
        obtain ⟨d1, d2⟩ := decT_len r hd
        refine ⟨by simp [i1], by simp only [List.length_drop] at i2 ⊢; omega, fun x hx => d2 x (List.mem_of_mem_drop (i3 x hx))⟩
section
variable {n0 : Nat} {h0 h : AH} {L : List (Nat × AO)} {O : List OS} {i br : Nat} {rv : Value} {rest : List Nat}
theorem f38_loop {β : Type} {k : Nat} {Q : β → Prop} (hiL : i < L.length) {ke0 : Value → Value → Value → Value → Value → AH → Option β} (n : Nat) :
    ∀ {j : Nat} {h : AH} {rv ov : Value} {rest : List Nat} {out : List ByteArray}, n < j → out.length + n ≤ 4096 → rest.length ≤ 2 ^ 30 → rest.length < k → (∀ x ∈ rest, x < 256) →
      Stt Try.prog n0 h0 h (L.set i (Rb br rv)) ((ov, 1, srows out) :: O) → RV (L.set i (Rb br rv)) i rv rest →
      (∀ h' rv' y l r' y0 y1 y10, readT n rest = some (l, r') → Stt Try.prog n0 h0 h' (L.set i (Rb br rv')) ((y, 1, srows (out ++ l)) :: O) → RV (L.set i (Rb br rv')) i rv' r' → Tl (ke0 y0 y1 y (.bool true) y10 h') Q) →
      (∀ h' rv' y l r' y0 y1 y10, readT n rest = none → l.length ≤ 4096 → Stt Try.prog n0 h0 h' (L.set i (Rb br rv')) ((y, 1, srows l) :: O) → RV (L.set i (Rb br rv')) i rv' r' → r'.length ≤ rest.length → (∀ x ∈ r', x ∈ rest) → Tl (ke0 y0 y1 y (.bool false) y10 h') Q) →
      Tl (F38_llrrlr (eInv env (k + 6)) (k + 6) j (ptr br) (.int .u64 (n : Int)) ov (.bool true) h ke0) Q := by
  induction n with
  | zero =>
    intro j h rv ov rest out hj ho hl hk hb S R hs hf
    obtain ⟨j, rfl⟩ : ∃ q, j = q + 1 := ⟨j - 1, by omega⟩
    simp only [F38_llrrlr]
    repeat (first | (with_reducible apply Tl.val; focus (simp (disch := omega) only [coreA, Int.reduceBEq, base_Xe] <;> with_reducible rfl)) | (with_reducible first | refine Tl.brT ?_ | refine Tl.brF ?_ | refine Tl.gd_on ?_ | refine Tl.gd3_on ?_) | ((with_reducible first | apply Tl.brC | apply Tl.gdC | apply Tl.gd3C); focus (simp (disch := omega) only [coreA, Int.reduceBEq, base_Xe] <;> with_reducible rfl)))
    exact hs _ _ _ [] rest _ _ _ rfl (by simpa using S) R
  | succ n ih =>
    intro j h rv ov rest out hj ho hl hk hb S R hs hf
    obtain ⟨j, rfl⟩ : ∃ q, j = q + 1 := ⟨j - 1, by omega⟩
    have hgi : ∀ a, (L.set i a)[i]? = some a := fun a => List.getElem?_set_self hiL
    simp only [F38_llrrlr]
    repeat (first | (with_reducible apply Tl.val; focus (simp (disch := omega) only [coreA, Int.reduceBEq, base_Xe] <;> with_reducible rfl)) | (with_reducible first | refine Tl.brT ?_ | refine Tl.brF ?_ | refine Tl.gd_on ?_ | refine Tl.gd3_on ?_) | ((with_reducible first | apply Tl.brC | apply Tl.gdC | apply Tl.gd3C); focus (simp (disch := omega) only [coreA, Int.reduceBEq, base_Xe] <;> with_reducible rfl)))
    refine Tl.bind (f37c (k := k) S (hgi _) R (by omega) hb hk) ?_
    rintro r (⟨s, r1, rv1, hd, er, S1, R1⟩ | ⟨hd, e, he, er⟩)
    · obtain ⟨rr, h1⟩ := r
      simp only at er S1
      subst er
      rw [List.set_set] at S1 R1
      obtain ⟨d1, d2⟩ := decT_len rest hd
      simp only [G38_5]
      by_cases q1 : s ≤ 65536
      · by_cases q2 : s ≤ r1.length
        · repeat (first | (with_reducible apply Tl.val; focus (simp (disch := omega) only [coreA, Int.reduceBEq, base_Xe] <;> with_reducible rfl)) | (with_reducible first | refine Tl.brT ?_ | refine Tl.brF ?_ | refine Tl.gd_on ?_ | refine Tl.gd3_on ?_) | ((with_reducible first | apply Tl.brC | apply Tl.gdC | apply Tl.gd3C); focus (simp (disch := omega) only [coreA, Int.reduceBEq, base_Xe] <;> with_reducible rfl)))
          refine Tl.bind (f66c (k := k + 3) S1 (hgi _) R1 q2 (by omega)) ?_
          rintro ⟨rr, h2⟩ ⟨bv, rv2, er, S2, R2⟩
          simp only at er S2 R2
          subst er
          rw [List.set_set] at S2 R2
          have cv := convB (S2.sl1 (f := u8v) 0 rfl)
          repeat (first | (with_reducible apply Tl.val; focus (simp (disch := omega) only [coreA, Int.reduceBEq, base_Xe, cv] <;> with_reducible rfl)) | (with_reducible first | refine Tl.brT ?_ | refine Tl.brF ?_ | refine Tl.gd_on ?_ | refine Tl.gd3_on ?_) | ((with_reducible first | apply Tl.brC | apply Tl.gdC | apply Tl.gd3C); focus (simp (disch := omega) only [coreA, Int.reduceBEq, base_Xe, cv] <;> with_reducible rfl)))
          refine Tl.push S2.dropO 0 rfl app22 (bs22 _ _) rfl rfl (by rw [srows_len]; omega) fun ov2 h3 S3 => ?_
          have S3 : Stt Try.prog n0 h0 h3 (L.set i (Rb br rv2)) ((ov2, 1, srows (out ++ [strB (r1.take s)])) :: O) := by rw [srows_app]; exact S3
          have e : ((n + 1 : Nat) : Int) - 1 = (n : Int) := by omega
          repeat (first | (with_reducible apply Tl.val; focus (simp (disch := omega) only [coreA, Int.reduceBEq, base_Xe] <;> with_reducible rfl)) | (with_reducible first | refine Tl.brT ?_ | refine Tl.brF ?_ | refine Tl.gd_on ?_ | refine Tl.gd3_on ?_) | ((with_reducible first | apply Tl.brC | apply Tl.gdC | apply Tl.gd3C); focus (simp (disch := omega) only [coreA, Int.reduceBEq, base_Xe] <;> with_reducible rfl)))
          rw [e]
          have hrd : readT (n + 1) rest = (readT n (r1.drop s)).map fun p => (strB (r1.take s) :: p.1, p.2) := by
            rw [readT, hd]
            simp only
            rw [if_neg (by omega)]
          rw [hrd] at hs hf
          refine ih (by omega) (by simp; omega) (by simp; omega) (by simp; omega) (fun x hx => hb x (d2 x (List.mem_of_mem_drop hx))) S3 R2 ?_ ?_
          · intro h' rv' y l r' y0 y1 y10 hr S' R'
            rw [hr] at hs
            exact hs h' rv' y _ r' y0 y1 y10 rfl (by simpa using S') R'
          · intro h' rv' y l r' y0 y1 y10 hr hll S' R' hl2 hm2
            rw [hr] at hf
            exact hf h' rv' y l r' y0 y1 y10 rfl hll S' R' (by simp at hl2; omega) (fun x hx => d2 x (List.mem_of_mem_drop (hm2 x hx)))
        · repeat (first | (with_reducible apply Tl.val; focus (simp (disch := omega) only [coreA, Int.reduceBEq, base_Xe] <;> with_reducible rfl)) | (with_reducible first | refine Tl.brT ?_ | refine Tl.brF ?_ | refine Tl.gd_on ?_ | refine Tl.gd3_on ?_) | ((with_reducible first | apply Tl.brC | apply Tl.gdC | apply Tl.gd3C); focus (simp (disch := omega) only [coreA, Int.reduceBEq, base_Xe] <;> with_reducible rfl)))
          refine Tl.bind (f66n (k := k + 3) S1 (hgi _) R1 (n := (s : Int)) (by omega)) ?_
          rintro r ⟨e, he, er⟩
          cases er
          repeat (first | (with_reducible apply Tl.val; focus (simp (disch := omega) only [coreA, Int.reduceBEq, base_Xe] <;> with_reducible rfl)) | (with_reducible first | refine Tl.brT ?_ | refine Tl.brF ?_ | refine Tl.gd_on ?_ | refine Tl.gd3_on ?_) | ((with_reducible first | apply Tl.brC | apply Tl.gdC | apply Tl.gd3C); focus (simp (disch := omega) only [coreA, Int.reduceBEq, base_Xe] <;> with_reducible rfl)))
          refine hf _ _ _ out r1 _ _ _ ?_ (by omega) S1 R1 (by omega) d2
          rw [readT, hd]
          simp only
          rw [if_pos (by omega)]
      · repeat (first | (with_reducible apply Tl.val; focus (simp (disch := omega) only [coreA, Int.reduceBEq, base_Xe] <;> with_reducible rfl)) | (with_reducible first | refine Tl.brT ?_ | refine Tl.brF ?_ | refine Tl.gd_on ?_ | refine Tl.gd3_on ?_) | ((with_reducible first | apply Tl.brC | apply Tl.gdC | apply Tl.gd3C); focus (simp (disch := omega) only [coreA, Int.reduceBEq, base_Xe] <;> with_reducible rfl)))
        refine hf _ _ _ out r1 _ _ _ ?_ (by omega) S1 R1 (by omega) d2
        rw [readT, hd]
        simp only
        rw [if_pos (by omega)]
    · cases er
      simp only [G38_5]
      repeat (first | (with_reducible apply Tl.val; focus (simp (disch := omega) only [coreA, Int.reduceBEq, base_Xe] <;> with_reducible rfl)) | (with_reducible first | refine Tl.brT ?_ | refine Tl.brF ?_ | refine Tl.gd_on ?_ | refine Tl.gd3_on ?_) | ((with_reducible first | apply Tl.brC | apply Tl.gdC | apply Tl.gd3C); focus (simp (disch := omega) only [coreA, Int.reduceBEq, base_Xe] <;> with_reducible rfl)))
      refine hf _ _ _ out rest _ _ _ ?_ (by omega) S R (by omega) (fun x hx => hx)
      rw [readT, hd]
theorem f38c {k : Nat} (S : Stt Try.prog n0 h0 h L O) (hi : L[i]? = some (Rb br rv)) (R : RV L i rv rest) {n : Nat} (hn : n ≤ 4096) (hl : rest.length ≤ 2 ^ 30) (hk : rest.length < k) (hnk : n < k + 6) (hb : ∀ x ∈ rest, x < 256) :
    Tl (eInv env (k + 7) (.func 38) #[] #[ptr br, .int .u64 (n : Int)] h) fun r => ∃ ov ok l rv' r', r.1 = .tuple #[ov, .bool ok] ∧ Stt Try.prog n0 h0 r.2 (L.set i (Rb br rv')) ((ov, 1, srows l) :: O) ∧ RV (L.set i (Rb br rv')) i rv' r' ∧ l.length ≤ 4096 ∧
      (readT n rest = some (l, r') ∧ ok = true ∨ readT n rest = none ∧ ok = false) ∧ r'.length ≤ rest.length ∧ ∀ x ∈ r', x ∈ rest := by
  rw [F38_call]
  unfold F38 F38_lrrlr
  have hiL := (List.getElem?_eq_some_iff.1 hi).1
  have e := set_same hi
  refine f38_loop (L := L) (i := i) (br := br) (O := O) hiL n (rv := rv) (out := []) (rest := rest) hnk (by simpa using hn) hl hk hb (by rw [e]; exact S.nil 1) (by rw [e]; exact R) ?_ ?_
  · intro h' rv' y l r' y0 y1 y10 hr S' R'
    obtain ⟨i1, i2, i3⟩ := readT_len n hr
    rw [List.nil_append] at S'
    exact ⟨_, rfl, y, true, l, rv', r', rfl, S', R', by omega, .inl ⟨hr, rfl⟩, i2, i3⟩
  · intro h' rv' y l r' y0 y1 y10 hr hll S' R' hl2 hm2
    exact ⟨_, rfl, y, false, l, rv', r', rfl, S', R', hll, .inr ⟨hr, rfl⟩, hl2, hm2⟩
theorem f39_loop {β : Type} {inv : Inv} {k : Nat} {Q : β → Prop} {wv av : Value} {w : List ByteArray} {at_ : List Nat} (hw : w.length ≤ 4096) (ha : at_.length ≤ 65536) (hx : ∀ x ∈ at_, x < 18446744073709551616) {ke0 : Value → Value → Value → Value → Value → Value → AH → Option β} {kr : Value → Value → AH → Option β} (n : Nat) :
    ∀ {i j : Nat} {h : AH} {ov : Value} {out : List ByteArray}, i + n = at_.length → n < j → out.length = i → Stt Try.prog n0 h0 h L ((ov, 1, srows out) :: (av, 1, u64rows at_) :: (wv, 1, srows w) :: O) →
      (∀ h' y l y1 y2, lookT w (at_.drop i) = some l → Stt Try.prog n0 h0 h' L ((y, 1, srows (out ++ l)) :: (av, 1, u64rows at_) :: (wv, 1, srows w) :: O) → Tl (ke0 y wv av (.int .i64 at_.length) y1 y2 h') Q) →
      (∀ h', lookT w (at_.drop i) = none → Stt Try.prog n0 h0 h' L O → Tl (kr (.slice none 0 0) (.bool false) h') Q) →
      Tl (F39_lrlrrrrrrrrr inv k j ov wv av (.int .i64 at_.length) (.int .i64 i) h ke0 kr) Q := by
  induction n with
  | zero =>
    intro i j h ov out hi hj ho S hs hf
    obtain ⟨j, rfl⟩ : ∃ q, j = q + 1 := ⟨j - 1, by omega⟩
    simp only [F39_lrlrrrrrrrrr]
    repeat (first | (with_reducible apply Tl.val; focus (simp (disch := omega) only [coreA, Int.reduceBEq, base_Xe] <;> with_reducible rfl)) | (with_reducible first | refine Tl.brT ?_ | refine Tl.brF ?_ | refine Tl.gd_on ?_ | refine Tl.gd3_on ?_) | ((with_reducible first | apply Tl.brC | apply Tl.gdC | apply Tl.gd3C); focus (simp (disch := omega) only [coreA, Int.reduceBEq, base_Xe] <;> with_reducible rfl)))
    rw [List.drop_eq_nil_of_le (by omega)] at hs
    exact hs _ _ [] _ _ rfl (by simpa using S)
  | succ n ih =>
    intro i j h ov out hi hj ho S hs hf
    obtain ⟨j, rfl⟩ : ∃ q, j = q + 1 := ⟨j - 1, by omega⟩
    obtain ⟨x, ex⟩ : ∃ x, at_[i]? = some x := ⟨_, List.getElem?_eq_getElem (by omega)⟩
    obtain ⟨b, o, hp, hc⟩ := Sl1.at_ (S.sl1 (f := u64v) 1 rfl) (t := 50) (k := .i64) ex u50 sz48
    have hc := hc h (Grow.refl _)
    have hx1 := hx x (List.mem_of_getElem? ex)
    have lw : ∀ h', pLen Try.prog #[22] wv h' = some (.int .i64 w.length) := fun h' => (Stt.strs S 2 rfl).len
    have hdr : at_.drop i = x :: at_.drop (i + 1) := by rw [List.drop_eq_getElem?_toList_append, ex]; rfl
    have e : (i : Int) + 1 = ((i + 1 : Nat) : Int) := by omega
    rw [hdr] at hs hf
    simp only [lookT] at hs hf
    simp only [F39_lrlrrrrrrrrr]
    by_cases q : x < w.length
    · obtain ⟨s, es⟩ : ∃ s, w[x]? = some s := ⟨_, List.getElem?_eq_getElem q⟩
      obtain ⟨b2, o2, hp2, hc2⟩ := (Stt.strs S 2 rfl).at_ (k := .u64) es
      have hc2 := hc2 h (Grow.refl _)
      rw [es] at hs hf
      simp only at hs hf
      repeat (first | (with_reducible apply Tl.val; focus (simp (disch := omega) only [coreA, Int.reduceBEq, base_Xe, hp, hc, u64v, lw, hp2, hc2] <;> with_reducible rfl)) | (with_reducible first | refine Tl.brT ?_ | refine Tl.brF ?_ | refine Tl.gd_on ?_ | refine Tl.gd3_on ?_) | ((with_reducible first | apply Tl.brC | apply Tl.gdC | apply Tl.gd3C); focus (simp (disch := omega) only [coreA, Int.reduceBEq, base_Xe, hp, hc, u64v, lw, hp2, hc2] <;> with_reducible rfl)))
      refine Tl.push S 0 rfl app22 (bs22 _ _) rfl rfl (by rw [srows_len]; omega) fun ov2 h3 S3 => ?_
      have S3 : Stt Try.prog n0 h0 h3 L ((ov2, 1, srows (out ++ [s])) :: (av, 1, u64rows at_) :: (wv, 1, srows w) :: O) := by rw [srows_app]; exact S3
      repeat (first | (with_reducible apply Tl.val; focus (simp (disch := omega) only [coreA, Int.reduceBEq, base_Xe] <;> with_reducible rfl)) | (with_reducible first | refine Tl.brT ?_ | refine Tl.brF ?_ | refine Tl.gd_on ?_ | refine Tl.gd3_on ?_) | ((with_reducible first | apply Tl.brC | apply Tl.gdC | apply Tl.gd3C); focus (simp (disch := omega) only [coreA, Int.reduceBEq, base_Xe] <;> with_reducible rfl)))
      rw [e]
      refine ih (by omega) (by omega) (by simp [ho]) S3 ?_ ?_
      · intro h' y l y1 y2 hr S'
        rw [hr] at hs
        exact hs h' y _ y1 y2 rfl (by simpa using S')
      · intro h' hr SO
        rw [hr] at hf
        exact hf h' rfl SO
    · have es : w[x]? = none := List.getElem?_eq_none (by omega)
      rw [es] at hf
      repeat (first | (with_reducible apply Tl.val; focus (simp (disch := omega) only [coreA, Int.reduceBEq, base_Xe, hp, hc, u64v, lw] <;> with_reducible rfl)) | (with_reducible first | refine Tl.brT ?_ | refine Tl.brF ?_ | refine Tl.gd_on ?_ | refine Tl.gd3_on ?_) | ((with_reducible first | apply Tl.brC | apply Tl.gdC | apply Tl.gd3C); focus (simp (disch := omega) only [coreA, Int.reduceBEq, base_Xe, hp, hc, u64v, lw] <;> with_reducible rfl)))
      exact hf _ rfl S.dropO.dropO.dropO
theorem f39c {k : Nat} (S : Stt Try.prog n0 h0 h L O) (hi : L[i]? = some (Rb br rv)) (R : RV L i rv rest) {n : Nat} (hn : n ≤ 4096) (hl : rest.length ≤ 2 ^ 30) (hk : rest.length < k) (hnk : 4096 < k) (hb : ∀ x ∈ rest, x < 256) :
    Tl (eInv env (k + 100) (.func 39) #[] #[ptr br, .int .i64 (n : Int)] h) fun r => ∃ ov ok l L', r.1 = .tuple #[ov, .bool ok] ∧ Stt Try.prog n0 h0 r.2 L' ((ov, 1, srows l) :: O) ∧ l.length ≤ 4096 ∧
      (wordsT n rest = some l ∧ ok = true ∨ wordsT n rest = none ∧ ok = false) := by
  rw [F39_call]
  unfold F39
  have hiL := (List.getElem?_eq_some_iff.1 hi).1
  have hgi : ∀ a, (L.set i a)[i]? = some a := fun a => List.getElem?_set_self hiL
  unfold wordsT
  simp only [G39_2]
  refine Tl.bind (f37c (k := k + 93) S hi R (by omega) hb (by omega)) ?_
  rintro r (⟨s, r1, rv1, hd, er, S1, R1⟩ | ⟨hd, e, he, er⟩)
  case inr =>
    cases er
    rw [hd]
    repeat (first | (with_reducible apply Tl.val; focus (simp (disch := omega) only [coreA, Int.reduceBEq, base_Xe] <;> with_reducible rfl)) | (with_reducible first | refine Tl.brT ?_ | refine Tl.brF ?_ | refine Tl.gd_on ?_ | refine Tl.gd3_on ?_) | ((with_reducible first | apply Tl.brC | apply Tl.gdC | apply Tl.gd3C); focus (simp (disch := omega) only [coreA, Int.reduceBEq, base_Xe] <;> with_reducible rfl)))
    exact ⟨_, rfl, _, false, [], L, rfl, S.nil 1, by simp, .inr ⟨rfl, rfl⟩⟩
  obtain ⟨rr, h1⟩ := r
  simp only at er S1
  subst er
  obtain ⟨d1, d2⟩ := decT_len rest hd
  rw [hd]
  simp only
  by_cases q1 : s > n
  · rw [if_pos q1]
    repeat (first | (with_reducible apply Tl.val; focus (simp (disch := omega) only [coreA, Int.reduceBEq, base_Xe] <;> with_reducible rfl)) | (with_reducible first | refine Tl.brT ?_ | refine Tl.brF ?_ | refine Tl.gd_on ?_ | refine Tl.gd3_on ?_) | ((with_reducible first | apply Tl.brC | apply Tl.gdC | apply Tl.gd3C); focus (simp (disch := omega) only [coreA, Int.reduceBEq, base_Xe] <;> with_reducible rfl)))
    exact ⟨_, rfl, _, false, [], _, rfl, S1.nil 1, by simp, .inr ⟨rfl, rfl⟩⟩
  rw [if_neg q1]
  repeat (first | (with_reducible apply Tl.val; focus (simp (disch := omega) only [coreA, Int.reduceBEq, base_Xe] <;> with_reducible rfl)) | (with_reducible first | refine Tl.brT ?_ | refine Tl.brF ?_ | refine Tl.gd_on ?_ | refine Tl.gd3_on ?_) | ((with_reducible first | apply Tl.brC | apply Tl.gdC | apply Tl.gd3C); focus (simp (disch := omega) only [coreA, Int.reduceBEq, base_Xe] <;> with_reducible rfl)))
  refine Tl.bind (f38c (k := k + 92) S1 (hgi _) R1 (n := s) (by omega) (by omega) (by omega) (by omega) (fun x hx => hb x (d2 x hx))) ?_
  rintro ⟨rr, h2⟩ ⟨wv, ok, w, rv2, r2, er, S2, R2, hwl, hr, hl2, hm2⟩
  simp only at er S2
  subst er
  rw [List.set_set] at S2 R2
  have hb2 : ∀ x ∈ r2, x < 256 := fun x hx => hb x (d2 x (hm2 x hx))
  by_cases q2 : r2 = []
  · subst q2
    repeat (first | (with_reducible apply Tl.val; focus (simp (disch := omega) only [coreA, Int.reduceBEq, base_Xe] <;> with_reducible rfl)) | (with_reducible first | refine Tl.brT ?_ | refine Tl.brF ?_ | refine Tl.gd_on ?_ | refine Tl.gd3_on ?_) | ((with_reducible first | apply Tl.brC | apply Tl.gdC | apply Tl.gd3C); focus (simp (disch := omega) only [coreA, Int.reduceBEq, base_Xe] <;> with_reducible rfl)))
    refine Tl.bind (f36n (k := k + 76) S2 (hgi _) R2 (n := 1) (by omega) (by omega) (by simp)) ?_
    rintro ⟨rr, h3⟩ ⟨er, g3⟩
    simp only at er g3
    subst er
    have S3 := (S2.call g3).dropO
    have fin : (match readT s r1 with | none => (none : Option (List ByteArray)) | some (w, r2) => match r2 with | [] => none | wd :: r3 => if Pk.checkE r3 (n : Int) (wd : Int) ≠ 0 then none else lookT w (Pk.getN r3 (n : Int) (wd : Int))) = none := by
      rcases hr with ⟨hr, _⟩ | ⟨hr, _⟩ <;> rw [hr]
    rw [fin]
    cases ok
    · repeat (first | (with_reducible apply Tl.val; focus (simp (disch := omega) only [coreA, Int.reduceBEq, base_Xe] <;> with_reducible rfl)) | (with_reducible first | refine Tl.brT ?_ | refine Tl.brF ?_ | refine Tl.gd_on ?_ | refine Tl.gd3_on ?_) | ((with_reducible first | apply Tl.brC | apply Tl.gdC | apply Tl.gd3C); focus (simp (disch := omega) only [coreA, Int.reduceBEq, base_Xe] <;> with_reducible rfl)))
      exact ⟨_, rfl, _, false, [], _, rfl, S3.nil 1, by simp, .inr ⟨rfl, rfl⟩⟩
    · repeat (first | (with_reducible apply Tl.val; focus (simp (disch := omega) only [coreA, Int.reduceBEq, base_Xe] <;> with_reducible rfl)) | (with_reducible first | refine Tl.brT ?_ | refine Tl.brF ?_ | refine Tl.gd_on ?_ | refine Tl.gd3_on ?_) | ((with_reducible first | apply Tl.brC | apply Tl.gdC | apply Tl.gd3C); focus (simp (disch := omega) only [coreA, Int.reduceBEq, base_Xe] <;> with_reducible rfl)))
      exact ⟨_, rfl, _, false, [], _, rfl, S3.nil 1, by simp, .inr ⟨rfl, rfl⟩⟩
  obtain ⟨wd, r3, rfl⟩ : ∃ a b, r2 = a :: b := by
    cases r2 with
    | nil => exact absurd rfl q2
    | cons a b => exact ⟨a, b, rfl⟩
  repeat (first | (with_reducible apply Tl.val; focus (simp (disch := omega) only [coreA, Int.reduceBEq, base_Xe] <;> with_reducible rfl)) | (with_reducible first | refine Tl.brT ?_ | refine Tl.brF ?_ | refine Tl.gd_on ?_ | refine Tl.gd3_on ?_) | ((with_reducible first | apply Tl.brC | apply Tl.gdC | apply Tl.gd3C); focus (simp (disch := omega) only [coreA, Int.reduceBEq, base_Xe] <;> with_reducible rfl)))
  refine Tl.bind (f36c (k := k + 76) S2 (hgi _) R2 (n := 1) (by omega) (by omega) (by simp) (by omega) hb2) ?_
  rintro ⟨rr, h3⟩ ⟨rv3, er, S3, R3⟩
  simp only at er S3 R3
  subst er
  rw [List.set_set] at S3 R3
  have ew : ofB ((wd :: r3).take 1) = wd := by simp [ofB]
  rw [ew]
  have hwd := hb2 wd (List.mem_cons_self ..)
  have R3 : RV (L.set i (Rb br rv3)) i rv3 r3 := R3
  have hl3 : r3.length + 1 ≤ rest.length := by simp at hl2; omega
  rcases hr with ⟨hr, rfl⟩ | ⟨hr, rfl⟩
  case inr =>
    rw [hr]
    repeat (first | (with_reducible apply Tl.val; focus (simp (disch := omega) only [coreA, Int.reduceBEq, base_Xe] <;> with_reducible rfl)) | (with_reducible first | refine Tl.brT ?_ | refine Tl.brF ?_ | refine Tl.gd_on ?_ | refine Tl.gd3_on ?_) | ((with_reducible first | apply Tl.brC | apply Tl.gdC | apply Tl.gd3C); focus (simp (disch := omega) only [coreA, Int.reduceBEq, base_Xe] <;> with_reducible rfl)))
    exact ⟨_, rfl, _, false, [], _, rfl, S3.dropO.nil 1, by simp, .inr ⟨rfl, rfl⟩⟩
  rw [hr]
  simp only
  have left := f67c (k := k + 98) S3 (hgi _) R3
  repeat (first | (with_reducible apply Tl.val; focus (simp (disch := omega) only [coreA, Int.reduceBEq, base_Xe, left] <;> with_reducible rfl)) | (with_reducible first | refine Tl.brT ?_ | refine Tl.brF ?_ | refine Tl.gd_on ?_ | refine Tl.gd3_on ?_) | ((with_reducible first | apply Tl.brC | apply Tl.gdC | apply Tl.gd3C); focus (simp (disch := omega) only [coreA, Int.reduceBEq, base_Xe, left] <;> with_reducible rfl)))
  refine Tl.bind (f66c (k := k + 96) S3 (hgi _) R3 (Nat.le_refl _) (by omega)) ?_
  rintro ⟨rr, h4⟩ ⟨bv, rv4, er, S4, R4⟩
  simp only at er S4 R4
  subst er
  rw [List.take_length] at S4
  have hb3 : ∀ x ∈ r3, x < 256 := fun x hx => hb2 x (List.mem_cons_of_mem _ hx)
  repeat (first | (with_reducible apply Tl.val; focus (simp (disch := omega) only [coreA, Int.reduceBEq, base_Xe] <;> with_reducible rfl)) | (with_reducible first | refine Tl.brT ?_ | refine Tl.brF ?_ | refine Tl.gd_on ?_ | refine Tl.gd3_on ?_) | ((with_reducible first | apply Tl.brC | apply Tl.gdC | apply Tl.gd3C); focus (simp (disch := omega) only [coreA, Int.reduceBEq, base_Xe] <;> with_reducible rfl)))
  refine Tl.bind (f68c (k := k + 9) (S4.sl1 (f := u8v) 0 rfl) hb3 (by omega) (n : Int) (wd : Int) (fun _ => by omega)) ?_
  rintro ⟨rr, h5⟩ ⟨av, er, g5, X5⟩
  simp only at er g5 X5
  subst er
  have S5 := S4.gain g5 X5
  by_cases q3 : Pk.checkE r3 (n : Int) (wd : Int) = 0
  case neg =>
    rw [if_pos q3]
    repeat (first | (with_reducible apply Tl.val; focus (simp (disch := omega) only [coreA, Int.reduceBEq, base_Xe] <;> with_reducible rfl)) | (with_reducible first | refine Tl.brT ?_ | refine Tl.brF ?_ | refine Tl.gd_on ?_ | refine Tl.gd3_on ?_) | ((with_reducible first | apply Tl.brC | apply Tl.gdC | apply Tl.gd3C); focus (simp (disch := omega) only [coreA, Int.reduceBEq, base_Xe] <;> with_reducible rfl)))
    exact ⟨_, rfl, _, false, [], _, rfl, S5.dropO.dropO.dropO.nil 1, by simp, .inr ⟨rfl, rfl⟩⟩
  rw [if_neg (fun h => h q3), q3]
  have S6 := S5.keepO (O' := (av, 1, u64rows (Pk.getN r3 (n : Int) (wd : Int))) :: (wv, 1, srows w) :: O) (by
    refine .cons_cons _ (.cons _ (List.Sublist.refl _)))
  have hgl : (Pk.getN r3 (n : Int) (wd : Int)).length = n := by
    obtain ⟨N, W, e1, e2, e3, e4, e5, _⟩ := Pk.back hb3 q3
    omega
  have la : ∀ h', pLen Try.prog #[50] av h' = some (.int .i64 (Pk.getN r3 (n : Int) (wd : Int)).length) := fun h' => Sl1.len (S6.sl1 (f := u64v) 0 rfl) u50
  repeat (first | (with_reducible apply Tl.val; focus (simp (disch := omega) only [coreA, Int.reduceBEq, base_Xe, la] <;> with_reducible rfl)) | (with_reducible first | refine Tl.brT ?_ | refine Tl.brF ?_ | refine Tl.gd_on ?_ | refine Tl.gd3_on ?_) | ((with_reducible first | apply Tl.brC | apply Tl.gdC | apply Tl.gd3C); focus (simp (disch := omega) only [coreA, Int.reduceBEq, base_Xe, la] <;> with_reducible rfl)))
  refine f39_loop (O := O) (w := w) hwl (by omega) Pk.getN_lt (Pk.getN r3 (n : Int) (wd : Int)).length (i := 0) (out := []) (by omega) (by omega) rfl (S6.nil 1) ?_ ?_
  · intro h' y l y1 y2 hlk S'
    rw [List.drop_zero] at hlk
    rw [hlk]
    rw [List.nil_append] at S'
    have hll : l.length ≤ 4096 := by
      have key : ∀ (a : List Nat) {l : List ByteArray}, lookT w a = some l → l.length = a.length := by
        intro a
        induction a with
        | nil => intro l h; cases h; rfl
        | cons x a ih =>
          intro l h
          unfold lookT at h
          split at h
          · cases h
          · obtain ⟨m, h1, rfl⟩ := Option.map_eq_some_iff.1 h
            simp [ih h1]
      have := key _ hlk
      omega
    exact ⟨_, rfl, y, true, l, _, rfl, S'.keepO (.cons_cons _ (.cons _ (.cons _ (List.Sublist.refl _)))), hll, .inl ⟨rfl, rfl⟩⟩
  · intro h' hlk SO
    rw [List.drop_zero] at hlk
    rw [hlk]
    exact ⟨_, rfl, _, false, [], _, rfl, SO.nil 1, by simp, .inr ⟨rfl, rfl⟩⟩
end
end Go.Proofs.Ytagcejlclcldcaa.Sh
