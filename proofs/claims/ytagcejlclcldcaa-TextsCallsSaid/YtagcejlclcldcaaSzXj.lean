/- The document's answer for texts: what is got. -/
import Derived.Test.YtagcejlclcldcaaSzXi
set_option linter.unusedVariables false
set_option linter.unusedSimpArgs false
set_option maxRecDepth 100000
namespace Go.Proofs.Ytagcejlclcldcaa.Sh
open Go Go.RowKit Go.Proofs.Ev
theorem base_Xj : type_of% (And.intro @ld3 (And.intro @ld4 (And.intro @ld9 (And.intro @ld22 (And.intro @ld30 (And.intro @ld48 (And.intro @ld50 (And.intro @ld84 (And.intro @fa84_0 (And.intro @nilCQ (And.intro (fun a h => conv_int (a := a) (h := h) u3 u48) (And.intro (fun a h => conv_int (a := a) (h := h) u48 u3) (And.intro (fun ox oy a b => bin_eql_bool (ox := ox) (oy := oy) (a := a) (b := b) u4) (And.intro @Nat.add_zero (And.intro @ex2_0 (@ex2_1)))))))))))))))) := And.intro @ld3 (And.intro @ld4 (And.intro @ld9 (And.intro @ld22 (And.intro @ld30 (And.intro @ld48 (And.intro @ld50 (And.intro @ld84 (And.intro @fa84_0 (And.intro @nilCQ (And.intro (fun a h => conv_int (a := a) (h := h) u3 u48) (And.intro (fun a h => conv_int (a := a) (h := h) u48 u3) (And.intro (fun ox oy a b => bin_eql_bool (ox := ox) (oy := oy) (a := a) (b := b) u4) (And.intro @Nat.add_zero (And.intro @ex2_0 (@ex2_1)))))))))))))))
def read1 (r : List Nat) : Option (ByteArray × List Nat) := match dec 0 0 r with
  | none => none
  | some (s, r1) => if s > 65536 ∨ r1.length < s then none else some (strB (r1.take s), r1.drop s)
theorem readT_succ (n : Nat) (r : List Nat) : readT (n + 1) r = match read1 r with
    | none => none
    | some (s, r1) => (readT n r1).map fun p => (s :: p.1, p.2) := by
  rw [readT]
  unfold read1
  cases dec 0 0 r with
  | none => rfl
  | some p =>
    obtain ⟨s, r1⟩ := p
    simp only
    split <;> rfl
section
variable {n0 : Nat} {h0 h : AH} {L : List (Nat × AO)} {O : List OS} {i br : Nat} {rv : Value} {rest : List Nat}
theorem f73c {k : Nat} (S : Stt Try.prog n0 h0 h L O) (hi : L[i]? = some (Qb br rv)) (R : RV L i rv rest) (hl : rest.length ≤ 2 ^ 30) (hb : ∀ x ∈ rest, x < 256) :
    Tl (eInv env (k + 21) (.func 73) #[] #[ptr br] h) fun r => ∃ rv' r', Stt Try.prog n0 h0 r.2 (L.set i (Qb br rv')) O ∧ RV (L.set i (Qb br rv')) i rv' r' ∧ r'.length ≤ rest.length ∧ (∀ x ∈ r', x ∈ rest) ∧
      ((∃ s, read1 rest = some (s, r') ∧ r.1 = .tuple #[.string s, .bool true]) ∨ (read1 rest = none ∧ ∃ z, r.1 = .tuple #[.string z, .bool false])) := by
  rw [F73_call]
  unfold F73
  have hiL := (List.getElem?_eq_some_iff.1 hi).1
  have hgi : ∀ a, (L.set i a)[i]? = some a := fun a => List.getElem?_set_self hiL
  have es := set_same hi
  unfold read1
  simp only [G73_2]
  refine Tl.bind (f48c (k := k) S hi R (by omega) hb) ?_
  rintro r (⟨s, r1, rv1, hd, er, S1, R1⟩ | ⟨hd, e, he, er⟩)
  case inr =>
    cases er
    rw [hd]
    repeat (first | (with_reducible apply Tl.val; focus (simp (disch := omega) only [coreA, Int.reduceBEq, base_Xj] <;> with_reducible rfl)) | (with_reducible first | refine Tl.brT ?_ | refine Tl.brF ?_ | refine Tl.gd_on ?_ | refine Tl.gd3_on ?_) | ((with_reducible first | apply Tl.brC | apply Tl.gdC | apply Tl.gd3C); focus (simp (disch := omega) only [coreA, Int.reduceBEq, base_Xj] <;> with_reducible rfl)))
    exact ⟨_, rfl, rv, rest, by rw [es]; exact S, by rw [es]; exact R, Nat.le_refl _, fun x hx => hx, .inr ⟨rfl, _, rfl⟩⟩
  obtain ⟨rr, h1⟩ := r
  simp only at er S1
  subst er
  obtain ⟨d1, d2⟩ := decT_len rest hd
  rw [hd]
  simp only
  by_cases q1 : s ≤ 65536
  · by_cases q2 : s ≤ r1.length
    · rw [if_neg (by omega)]
      repeat (first | (with_reducible apply Tl.val; focus (simp (disch := omega) only [coreA, Int.reduceBEq, base_Xj] <;> with_reducible rfl)) | (with_reducible first | refine Tl.brT ?_ | refine Tl.brF ?_ | refine Tl.gd_on ?_ | refine Tl.gd3_on ?_) | ((with_reducible first | apply Tl.brC | apply Tl.gdC | apply Tl.gd3C); focus (simp (disch := omega) only [coreA, Int.reduceBEq, base_Xj] <;> with_reducible rfl)))
      refine Tl.bind (f85c (k := k + 17) S1 (hgi _) R1 q2 (by omega)) ?_
      rintro ⟨rr, h2⟩ ⟨bv, rv2, er, S2, R2⟩
      simp only at er S2 R2
      subst er
      rw [List.set_set] at S2 R2
      have cv := convB (S2.sl1 (f := u8v) 0 rfl)
      repeat (first | (with_reducible apply Tl.val; focus (simp (disch := omega) only [coreA, Int.reduceBEq, base_Xj, cv] <;> with_reducible rfl)) | (with_reducible first | refine Tl.brT ?_ | refine Tl.brF ?_ | refine Tl.gd_on ?_ | refine Tl.gd3_on ?_) | ((with_reducible first | apply Tl.brC | apply Tl.gdC | apply Tl.gd3C); focus (simp (disch := omega) only [coreA, Int.reduceBEq, base_Xj, cv] <;> with_reducible rfl)))
      exact ⟨_, rfl, rv2, r1.drop s, S2.dropO, R2, by rw [List.length_drop]; omega, fun x hx => d2 x (List.mem_of_mem_drop hx), .inl ⟨_, rfl, rfl⟩⟩
    · rw [if_pos (by omega)]
      have hn := f85n (k := k + 19) S1 (hgi _) R1 (n := (s : Int)) (by omega)
      have cv := convB (show Bytes h1 (.slice none 0 0) [] from .inl ⟨rfl, rfl⟩)
      repeat (first | (with_reducible apply Tl.val; focus (simp (disch := omega) only [coreA, Int.reduceBEq, base_Xj, hn, cv] <;> with_reducible rfl)) | (with_reducible first | refine Tl.brT ?_ | refine Tl.brF ?_ | refine Tl.gd_on ?_ | refine Tl.gd3_on ?_) | ((with_reducible first | apply Tl.brC | apply Tl.gdC | apply Tl.gd3C); focus (simp (disch := omega) only [coreA, Int.reduceBEq, base_Xj, hn, cv] <;> with_reducible rfl)))
      exact ⟨_, rfl, rv1, r1, S1, R1, by omega, d2, .inr ⟨rfl, _, rfl⟩⟩
  · rw [if_pos (by omega)]
    repeat (first | (with_reducible apply Tl.val; focus (simp (disch := omega) only [coreA, Int.reduceBEq, base_Xj] <;> with_reducible rfl)) | (with_reducible first | refine Tl.brT ?_ | refine Tl.brF ?_ | refine Tl.gd_on ?_ | refine Tl.gd3_on ?_) | ((with_reducible first | apply Tl.brC | apply Tl.gdC | apply Tl.gd3C); focus (simp (disch := omega) only [coreA, Int.reduceBEq, base_Xj] <;> with_reducible rfl)))
    exact ⟨_, rfl, rv1, r1, S1, R1, by omega, d2, .inr ⟨rfl, _, rfl⟩⟩
theorem f49_loop {β : Type} {k : Nat} {Q : β → Prop} (hiL : i < L.length) {ke0 : Value → Value → Value → Value → AH → Option β} {kr : Value → Value → AH → Option β} (n : Nat) :
    ∀ {j : Nat} {h : AH} {rv ov : Value} {rest : List Nat} {out : List ByteArray}, n < j → out.length + n ≤ 4096 → rest.length ≤ 2 ^ 30 → (∀ x ∈ rest, x < 256) →
      Stt Try.prog n0 h0 h (L.set i (Qb br rv)) ((ov, 1, srows out) :: O) → RV (L.set i (Qb br rv)) i rv rest →
      (∀ h' rv' y l r' y0 y1 y10, readT n rest = some (l, r') → Stt Try.prog n0 h0 h' (L.set i (Qb br rv')) ((y, 1, srows (out ++ l)) :: O) → RV (L.set i (Qb br rv')) i rv' r' → Tl (ke0 y0 y1 y y10 h') Q) →
      (∀ h' rv' r', readT n rest = none → Stt Try.prog n0 h0 h' (L.set i (Qb br rv')) O → RV (L.set i (Qb br rv')) i rv' r' → r'.length ≤ rest.length → (∀ x ∈ r', x ∈ rest) → Tl (kr (.slice none 0 0) (.bool false) h') Q) →
      Tl (F49_llrr (eInv env (k + 21)) (k + 21) j (ptr br) (.int .u64 (n : Int)) ov h ke0 kr) Q := by
  induction n with
  | zero =>
    intro j h rv ov rest out hj ho hl hb S R hs hf
    obtain ⟨j, rfl⟩ : ∃ q, j = q + 1 := ⟨j - 1, by omega⟩
    simp only [F49_llrr]
    repeat (first | (with_reducible apply Tl.val; focus (simp (disch := omega) only [coreA, Int.reduceBEq, base_Xj] <;> with_reducible rfl)) | (with_reducible first | refine Tl.brT ?_ | refine Tl.brF ?_ | refine Tl.gd_on ?_ | refine Tl.gd3_on ?_) | ((with_reducible first | apply Tl.brC | apply Tl.gdC | apply Tl.gd3C); focus (simp (disch := omega) only [coreA, Int.reduceBEq, base_Xj] <;> with_reducible rfl)))
    exact hs _ _ _ [] rest _ _ _ rfl (by simpa using S) R
  | succ n ih =>
    intro j h rv ov rest out hj ho hl hb S R hs hf
    obtain ⟨j, rfl⟩ : ∃ q, j = q + 1 := ⟨j - 1, by omega⟩
    have hgi : ∀ a, (L.set i a)[i]? = some a := fun a => List.getElem?_set_self hiL
    rw [readT_succ] at hs hf
    simp only [F49_llrr]
    repeat (first | (with_reducible apply Tl.val; focus (simp (disch := omega) only [coreA, Int.reduceBEq, base_Xj] <;> with_reducible rfl)) | (with_reducible first | refine Tl.brT ?_ | refine Tl.brF ?_ | refine Tl.gd_on ?_ | refine Tl.gd3_on ?_) | ((with_reducible first | apply Tl.brC | apply Tl.gdC | apply Tl.gd3C); focus (simp (disch := omega) only [coreA, Int.reduceBEq, base_Xj] <;> with_reducible rfl)))
    refine Tl.bind (f73c (k := k) S (hgi _) R hl hb) ?_
    rintro ⟨rr, h1⟩ ⟨rv1, r1, S1, R1, d1, d2, hr⟩
    simp only at S1 hr
    rw [List.set_set] at S1 R1
    rcases hr with ⟨s, hr, er⟩ | ⟨hr, z, er⟩
    · subst er
      rw [hr] at hs hf
      simp only at hs hf
      repeat (first | (with_reducible apply Tl.val; focus (simp (disch := omega) only [coreA, Int.reduceBEq, base_Xj] <;> with_reducible rfl)) | (with_reducible first | refine Tl.brT ?_ | refine Tl.brF ?_ | refine Tl.gd_on ?_ | refine Tl.gd3_on ?_) | ((with_reducible first | apply Tl.brC | apply Tl.gdC | apply Tl.gd3C); focus (simp (disch := omega) only [coreA, Int.reduceBEq, base_Xj] <;> with_reducible rfl)))
      refine Tl.push S1 0 rfl app22 (bs22 _ _) rfl rfl (by rw [srows_len]; omega) fun ov2 h3 S3 => ?_
      have S3 : Stt Try.prog n0 h0 h3 (L.set i (Qb br rv1)) ((ov2, 1, srows (out ++ [s])) :: O) := by rw [srows_app]; exact S3
      have e : ((n + 1 : Nat) : Int) - 1 = (n : Int) := by omega
      repeat (first | (with_reducible apply Tl.val; focus (simp (disch := omega) only [coreA, Int.reduceBEq, base_Xj] <;> with_reducible rfl)) | (with_reducible first | refine Tl.brT ?_ | refine Tl.brF ?_ | refine Tl.gd_on ?_ | refine Tl.gd3_on ?_) | ((with_reducible first | apply Tl.brC | apply Tl.gdC | apply Tl.gd3C); focus (simp (disch := omega) only [coreA, Int.reduceBEq, base_Xj] <;> with_reducible rfl)))
      rw [e]
      refine ih (by omega) (by simp; omega) (by omega) (fun x hx => hb x (d2 x hx)) S3 R1 ?_ ?_
      · intro h' rv' y l r' y0 y1 y10 hr2 S' R'
        rw [hr2] at hs
        exact hs h' rv' y _ r' y0 y1 y10 rfl (by simpa using S') R'
      · intro h' rv' r' hr2 S' R' hl2 hm2
        rw [hr2] at hf
        exact hf h' rv' r' rfl S' R' (by omega) (fun x hx => d2 x (hm2 x hx))
    · subst er
      rw [hr] at hf
      repeat (first | (with_reducible apply Tl.val; focus (simp (disch := omega) only [coreA, Int.reduceBEq, base_Xj] <;> with_reducible rfl)) | (with_reducible first | refine Tl.brT ?_ | refine Tl.brF ?_ | refine Tl.gd_on ?_ | refine Tl.gd3_on ?_) | ((with_reducible first | apply Tl.brC | apply Tl.gdC | apply Tl.gd3C); focus (simp (disch := omega) only [coreA, Int.reduceBEq, base_Xj] <;> with_reducible rfl)))
      exact hf _ _ r1 rfl S1.dropO R1 d1 d2
theorem f49c {k : Nat} (S : Stt Try.prog n0 h0 h L O) (hi : L[i]? = some (Qb br rv)) (R : RV L i rv rest) {n : Nat} (hn : n ≤ 4096) (hl : rest.length ≤ 2 ^ 30) (hnk : n < k + 21) (hb : ∀ x ∈ rest, x < 256) :
    Tl (eInv env (k + 22) (.func 49) #[] #[ptr br, .int .u64 (n : Int)] h) fun r => ∃ ov ok l rv' r', r.1 = .tuple #[ov, .bool ok] ∧ Stt Try.prog n0 h0 r.2 (L.set i (Qb br rv')) ((ov, 1, srows l) :: O) ∧ RV (L.set i (Qb br rv')) i rv' r' ∧ l.length ≤ 4096 ∧
      (readT n rest = some (l, r') ∧ ok = true ∨ readT n rest = none ∧ ok = false) ∧ r'.length ≤ rest.length ∧ ∀ x ∈ r', x ∈ rest := by
  rw [F49_call]
  unfold F49
  have hiL := (List.getElem?_eq_some_iff.1 hi).1
  have e := set_same hi
  refine f49_loop (L := L) (i := i) (br := br) (O := O) hiL n (rv := rv) (out := []) (rest := rest) hnk (by simpa using hn) hl hb (by rw [e]; exact S.nil 1) (by rw [e]; exact R) ?_ ?_
  · intro h' rv' y l r' y0 y1 y10 hr S' R'
    obtain ⟨i1, i2, i3⟩ := readT_len n hr
    rw [List.nil_append] at S'
    exact ⟨_, rfl, y, true, l, rv', r', rfl, S', R', by omega, .inl ⟨hr, rfl⟩, i2, i3⟩
  · intro h' rv' r' hr S' R' hl2 hm2
    exact ⟨_, rfl, _, false, [], rv', r', rfl, S'.nil 1, R', by simp, .inr ⟨hr, rfl⟩, hl2, hm2⟩
theorem lookT_len (w : List ByteArray) : ∀ (a : List Nat) {l : List ByteArray}, lookT w a = some l → l.length = a.length := by
  intro a
  induction a with
  | nil => intro l h; cases h; rfl
  | cons x a ih =>
    intro l h
    unfold lookT at h
    split at h
    · cases h
    · obtain ⟨m, h1, rfl⟩ := Option.map_eq_some_iff.1 h
      simp [ih h1]
theorem f50_loop {β : Type} {inv : Inv} {k : Nat} {Q : β → Prop} {wv av : Value} {w : List ByteArray} {at_ : List Nat} (hw : w.length ≤ 4096) (ha : at_.length ≤ 65536) (hx : ∀ x ∈ at_, x < 18446744073709551616) {ke0 : Value → Value → Value → Value → Value → Value → AH → Option β} {kr : Value → Value → AH → Option β} (n : Nat) :
    ∀ {i j : Nat} {h : AH} {ov : Value} {out : List ByteArray}, i + n = at_.length → n < j → out.length = i → Stt Try.prog n0 h0 h L ((ov, 1, srows out) :: (av, 1, u64rows at_) :: (wv, 1, srows w) :: O) →
      (∀ h' y l y1 y2, lookT w (at_.drop i) = some l → Stt Try.prog n0 h0 h' L ((y, 1, srows (out ++ l)) :: (av, 1, u64rows at_) :: (wv, 1, srows w) :: O) → Tl (ke0 (.int .i64 at_.length) wv av y y1 y2 h') Q) →
      (∀ h', lookT w (at_.drop i) = none → Stt Try.prog n0 h0 h' L O → Tl (kr (.slice none 0 0) (.bool false) h') Q) →
      Tl (F50_lrlrrrrrrrrr inv k j (.int .i64 at_.length) wv av ov (.int .i64 i) h ke0 kr) Q := by
  induction n with
  | zero =>
    intro i j h ov out hi hj ho S hs hf
    obtain ⟨j, rfl⟩ : ∃ q, j = q + 1 := ⟨j - 1, by omega⟩
    simp only [F50_lrlrrrrrrrrr]
    repeat (first | (with_reducible apply Tl.val; focus (simp (disch := omega) only [coreA, Int.reduceBEq, base_Xj] <;> with_reducible rfl)) | (with_reducible first | refine Tl.brT ?_ | refine Tl.brF ?_ | refine Tl.gd_on ?_ | refine Tl.gd3_on ?_) | ((with_reducible first | apply Tl.brC | apply Tl.gdC | apply Tl.gd3C); focus (simp (disch := omega) only [coreA, Int.reduceBEq, base_Xj] <;> with_reducible rfl)))
    rw [List.drop_eq_nil_of_le (by omega)] at hs
    exact hs _ _ [] _ _ rfl (by simpa using S)
  | succ n ih =>
    intro i j h ov out hi hj ho S hs hf
    obtain ⟨j, rfl⟩ : ∃ q, j = q + 1 := ⟨j - 1, by omega⟩
    obtain ⟨x, ex⟩ : ∃ x, at_[i]? = some x := ⟨_, List.getElem?_eq_getElem (by omega)⟩
    obtain ⟨b, o, hp, hc⟩ := Sl1.at_ (S.sl1 (f := u64v) 1 rfl) (t := 50) (k := .i64) ex u50 sz48
    have hc := hc h (Grow.refl _)
    have hx1 := hx x (List.mem_of_getElem? ex)
    have lw : ∀ h', pLen Try.prog #[22] wv h' = some (.int .i64 w.length) := fun h' => (Stt.strs S 2 rfl).len
    have hdr : at_.drop i = x :: at_.drop (i + 1) := by rw [List.drop_eq_getElem?_toList_append, ex]; rfl
    have e : (i : Int) + 1 = ((i + 1 : Nat) : Int) := by omega
    rw [hdr] at hs hf
    simp only [lookT] at hs hf
    simp only [F50_lrlrrrrrrrrr]
    by_cases q : x < w.length
    · obtain ⟨s, es⟩ : ∃ s, w[x]? = some s := ⟨_, List.getElem?_eq_getElem q⟩
      obtain ⟨b2, o2, hp2, hc2⟩ := (Stt.strs S 2 rfl).at_ (k := .u64) es
      have hc2 := hc2 h (Grow.refl _)
      rw [es] at hs hf
      simp only at hs hf
      repeat (first | (with_reducible apply Tl.val; focus (simp (disch := omega) only [coreA, Int.reduceBEq, base_Xj, hp, hc, u64v, lw, hp2, hc2] <;> with_reducible rfl)) | (with_reducible first | refine Tl.brT ?_ | refine Tl.brF ?_ | refine Tl.gd_on ?_ | refine Tl.gd3_on ?_) | ((with_reducible first | apply Tl.brC | apply Tl.gdC | apply Tl.gd3C); focus (simp (disch := omega) only [coreA, Int.reduceBEq, base_Xj, hp, hc, u64v, lw, hp2, hc2] <;> with_reducible rfl)))
      refine Tl.push S 0 rfl app22 (bs22 _ _) rfl rfl (by rw [srows_len]; omega) fun ov2 h3 S3 => ?_
      have S3 : Stt Try.prog n0 h0 h3 L ((ov2, 1, srows (out ++ [s])) :: (av, 1, u64rows at_) :: (wv, 1, srows w) :: O) := by rw [srows_app]; exact S3
      repeat (first | (with_reducible apply Tl.val; focus (simp (disch := omega) only [coreA, Int.reduceBEq, base_Xj] <;> with_reducible rfl)) | (with_reducible first | refine Tl.brT ?_ | refine Tl.brF ?_ | refine Tl.gd_on ?_ | refine Tl.gd3_on ?_) | ((with_reducible first | apply Tl.brC | apply Tl.gdC | apply Tl.gd3C); focus (simp (disch := omega) only [coreA, Int.reduceBEq, base_Xj] <;> with_reducible rfl)))
      rw [e]
      refine ih (by omega) (by omega) (by simp [ho]) S3 ?_ ?_
      · intro h' y l y1 y2 hr S'
        rw [hr] at hs
        exact hs h' y _ y1 y2 rfl (by simpa using S')
      · intro h' hr SO
        rw [hr] at hf
        exact hf h' rfl SO
    · have es : w[x]? = none := List.getElem?_eq_none (by omega)
      rw [es] at hf
      repeat (first | (with_reducible apply Tl.val; focus (simp (disch := omega) only [coreA, Int.reduceBEq, base_Xj, hp, hc, u64v, lw] <;> with_reducible rfl)) | (with_reducible first | refine Tl.brT ?_ | refine Tl.brF ?_ | refine Tl.gd_on ?_ | refine Tl.gd3_on ?_) | ((with_reducible first | apply Tl.brC | apply Tl.gdC | apply Tl.gd3C); focus (simp (disch := omega) only [coreA, Int.reduceBEq, base_Xj, hp, hc, u64v, lw] <;> with_reducible rfl)))
      exact hf _ rfl S.dropO.dropO.dropO
theorem f50c {k : Nat} (S : Stt Try.prog n0 h0 h L O) (hi : L[i]? = some (Qb br rv)) (R : RV L i rv rest) {n : Nat} (hn : n ≤ 4096) (hl : rest.length ≤ 2 ^ 30) (hnk : 4096 < k) (h8 : 8 * rest.length < k) (hb : ∀ x ∈ rest, x < 256) :
    Tl (eInv env (k + 100) (.func 50) #[] #[ptr br, .int .i64 (n : Int)] h) fun r => ∃ ov ok l L', r.1 = .tuple #[ov, .bool ok] ∧ Stt Try.prog n0 h0 r.2 L' ((ov, 1, srows l) :: O) ∧ l.length ≤ 4096 ∧
      (wordsT n rest = some l ∧ ok = true ∨ wordsT n rest = none ∧ ok = false) := by
  rw [F50_call]
  unfold F50
  have hiL := (List.getElem?_eq_some_iff.1 hi).1
  have hgi : ∀ a, (L.set i a)[i]? = some a := fun a => List.getElem?_set_self hiL
  unfold wordsT
  simp only [G50_2]
  refine Tl.bind (f48c (k := k + 79) S hi R (by omega) hb) ?_
  rintro r (⟨s, r1, rv1, hd, er, S1, R1⟩ | ⟨hd, e, he, er⟩)
  case inr =>
    cases er
    rw [hd]
    repeat (first | (with_reducible apply Tl.val; focus (simp (disch := omega) only [coreA, Int.reduceBEq, base_Xj] <;> with_reducible rfl)) | (with_reducible first | refine Tl.brT ?_ | refine Tl.brF ?_ | refine Tl.gd_on ?_ | refine Tl.gd3_on ?_) | ((with_reducible first | apply Tl.brC | apply Tl.gdC | apply Tl.gd3C); focus (simp (disch := omega) only [coreA, Int.reduceBEq, base_Xj] <;> with_reducible rfl)))
    exact ⟨_, rfl, _, false, [], L, rfl, S.nil 1, by simp, .inr ⟨rfl, rfl⟩⟩
  obtain ⟨rr, h1⟩ := r
  simp only at er S1
  subst er
  obtain ⟨d1, d2⟩ := decT_len rest hd
  rw [hd]
  simp only
  by_cases q1 : s > n
  · rw [if_pos q1]
    repeat (first | (with_reducible apply Tl.val; focus (simp (disch := omega) only [coreA, Int.reduceBEq, base_Xj] <;> with_reducible rfl)) | (with_reducible first | refine Tl.brT ?_ | refine Tl.brF ?_ | refine Tl.gd_on ?_ | refine Tl.gd3_on ?_) | ((with_reducible first | apply Tl.brC | apply Tl.gdC | apply Tl.gd3C); focus (simp (disch := omega) only [coreA, Int.reduceBEq, base_Xj] <;> with_reducible rfl)))
    exact ⟨_, rfl, _, false, [], _, rfl, S1.nil 1, by simp, .inr ⟨rfl, rfl⟩⟩
  rw [if_neg q1]
  repeat (first | (with_reducible apply Tl.val; focus (simp (disch := omega) only [coreA, Int.reduceBEq, base_Xj] <;> with_reducible rfl)) | (with_reducible first | refine Tl.brT ?_ | refine Tl.brF ?_ | refine Tl.gd_on ?_ | refine Tl.gd3_on ?_) | ((with_reducible first | apply Tl.brC | apply Tl.gdC | apply Tl.gd3C); focus (simp (disch := omega) only [coreA, Int.reduceBEq, base_Xj] <;> with_reducible rfl)))
  refine Tl.bind (f49c (k := k + 77) S1 (hgi _) R1 (n := s) (by omega) (by omega) (by omega) (fun x hx => hb x (d2 x hx))) ?_
  rintro ⟨rr, h2⟩ ⟨wv, ok, w, rv2, r2, er, S2, R2, hwl, hr, hl2, hm2⟩
  simp only at er S2
  subst er
  rw [List.set_set] at S2 R2
  have hb2 : ∀ x ∈ r2, x < 256 := fun x hx => hb x (d2 x (hm2 x hx))
  by_cases q2 : r2 = []
  · subst q2
    have hnum := f47n (k := k + 76) S2 (hgi _) R2 (n := 1) (by omega) (by omega) (by simp)
    have e1 : ((1 : Nat) : Int) = 1 := rfl
    rw [e1] at hnum
    have S3 := S2.dropO
    cases ok
    · repeat (first | (with_reducible apply Tl.val; focus (simp (disch := omega) only [coreA, Int.reduceBEq, base_Xj, hnum] <;> with_reducible rfl)) | (with_reducible first | refine Tl.brT ?_ | refine Tl.brF ?_ | refine Tl.gd_on ?_ | refine Tl.gd3_on ?_) | ((with_reducible first | apply Tl.brC | apply Tl.gdC | apply Tl.gd3C); focus (simp (disch := omega) only [coreA, Int.reduceBEq, base_Xj, hnum] <;> with_reducible rfl)))
      exact ⟨_, rfl, _, false, [], _, rfl, S3.nil 1, by simp, .inr ⟨by rcases hr with ⟨hr, _⟩ | ⟨hr, _⟩ <;> rw [hr], rfl⟩⟩
    · repeat (first | (with_reducible apply Tl.val; focus (simp (disch := omega) only [coreA, Int.reduceBEq, base_Xj, hnum] <;> with_reducible rfl)) | (with_reducible first | refine Tl.brT ?_ | refine Tl.brF ?_ | refine Tl.gd_on ?_ | refine Tl.gd3_on ?_) | ((with_reducible first | apply Tl.brC | apply Tl.gdC | apply Tl.gd3C); focus (simp (disch := omega) only [coreA, Int.reduceBEq, base_Xj, hnum] <;> with_reducible rfl)))
      exact ⟨_, rfl, _, false, [], _, rfl, S3.nil 1, by simp, .inr ⟨by rcases hr with ⟨hr, _⟩ | ⟨hr, _⟩ <;> rw [hr], rfl⟩⟩
  obtain ⟨wd, r3, rfl⟩ : ∃ a b, r2 = a :: b := by
    cases r2 with
    | nil => exact absurd rfl q2
    | cons a b => exact ⟨a, b, rfl⟩
  repeat (first | (with_reducible apply Tl.val; focus (simp (disch := omega) only [coreA, Int.reduceBEq, base_Xj] <;> with_reducible rfl)) | (with_reducible first | refine Tl.brT ?_ | refine Tl.brF ?_ | refine Tl.gd_on ?_ | refine Tl.gd3_on ?_) | ((with_reducible first | apply Tl.brC | apply Tl.gdC | apply Tl.gd3C); focus (simp (disch := omega) only [coreA, Int.reduceBEq, base_Xj] <;> with_reducible rfl)))
  refine Tl.bind (f47c (k := k + 76) S2 (hgi _) R2 (n := 1) (by omega) (by omega) (by simp) (by omega) hb2) ?_
  rintro ⟨rr, h3⟩ ⟨rv3, er, S3, R3⟩
  simp only at er S3 R3
  subst er
  rw [List.set_set] at S3 R3
  have ew : ofB ((wd :: r3).take 1) = wd := by simp [ofB]
  rw [ew]
  have hwd := hb2 wd (List.mem_cons_self ..)
  have R3 : RV (L.set i (Qb br rv3)) i rv3 r3 := R3
  have hl3 : r3.length + 1 ≤ rest.length := by simp at hl2; omega
  rcases hr with ⟨hr, rfl⟩ | ⟨hr, rfl⟩
  case inr =>
    rw [hr]
    repeat (first | (with_reducible apply Tl.val; focus (simp (disch := omega) only [coreA, Int.reduceBEq, base_Xj] <;> with_reducible rfl)) | (with_reducible first | refine Tl.brT ?_ | refine Tl.brF ?_ | refine Tl.gd_on ?_ | refine Tl.gd3_on ?_) | ((with_reducible first | apply Tl.brC | apply Tl.gdC | apply Tl.gd3C); focus (simp (disch := omega) only [coreA, Int.reduceBEq, base_Xj] <;> with_reducible rfl)))
    exact ⟨_, rfl, _, false, [], _, rfl, S3.dropO.nil 1, by simp, .inr ⟨rfl, rfl⟩⟩
  rw [hr]
  simp only
  have hb3 : ∀ x ∈ r3, x < 256 := fun x hx => hb2 x (List.mem_cons_of_mem _ hx)
  have c3 := S3.cell i (o := 0) (hgi _) rfl
  unfold ptr
  repeat (first | (with_reducible apply Tl.val; focus (simp (disch := omega) only [coreA, Int.reduceBEq, base_Xj, c3] <;> with_reducible rfl)) | (with_reducible first | refine Tl.brT ?_ | refine Tl.brF ?_ | refine Tl.gd_on ?_ | refine Tl.gd3_on ?_) | ((with_reducible first | apply Tl.brC | apply Tl.gdC | apply Tl.gd3C); focus (simp (disch := omega) only [coreA, Int.reduceBEq, base_Xj, c3] <;> with_reducible rfl)))
  refine Tl.bind (Pk.f18c (k := k + 9) (R3.bytes S3).pk hb3 (by omega) (n : Int) (wd : Int) (fun _ => by omega) (by omega)) ?_
  rintro ⟨rr, h5⟩ ⟨av, er, g5, X5⟩
  rw [pk_wrow] at X5
  simp only at er g5 X5
  subst er
  have S5 := S3.gain g5 X5
  by_cases q3 : Pk.checkE r3 (n : Int) (wd : Int) = 0
  case neg =>
    rw [if_pos q3]
    repeat (first | (with_reducible apply Tl.val; focus (simp (disch := omega) only [coreA, Int.reduceBEq, base_Xj] <;> with_reducible rfl)) | (with_reducible first | refine Tl.brT ?_ | refine Tl.brF ?_ | refine Tl.gd_on ?_ | refine Tl.gd3_on ?_) | ((with_reducible first | apply Tl.brC | apply Tl.gdC | apply Tl.gd3C); focus (simp (disch := omega) only [coreA, Int.reduceBEq, base_Xj] <;> with_reducible rfl)))
    exact ⟨_, rfl, _, false, [], _, rfl, S5.dropO.dropO.nil 1, by simp, .inr ⟨rfl, rfl⟩⟩
  rw [if_neg (fun h => h q3), q3]
  have hgl : (Pk.getN r3 (n : Int) (wd : Int)).length = n := by
    obtain ⟨N, W, e1, e2, e3, e4, e5, _⟩ := Pk.back hb3 q3
    omega
  have hglI : (n : Int) = ((Pk.getN r3 (n : Int) (wd : Int)).length : Int) := by omega
  repeat (first | (with_reducible apply Tl.val; focus (simp (disch := omega) only [coreA, Int.reduceBEq, base_Xj] <;> with_reducible rfl)) | (with_reducible first | refine Tl.brT ?_ | refine Tl.brF ?_ | refine Tl.gd_on ?_ | refine Tl.gd3_on ?_) | ((with_reducible first | apply Tl.brC | apply Tl.gdC | apply Tl.gd3C); focus (simp (disch := omega) only [coreA, Int.reduceBEq, base_Xj] <;> with_reducible rfl)))
  have goal := f50_loop (Q := fun r : Value × AH => ∃ ov ok l L', r.1 = .tuple #[ov, .bool ok] ∧ Stt Try.prog n0 h0 r.2 L' ((ov, 1, srows l) :: O) ∧ l.length ≤ 4096 ∧ (lookT w (Pk.getN r3 (n : Int) (wd : Int)) = some l ∧ ok = true ∨ lookT w (Pk.getN r3 (n : Int) (wd : Int)) = none ∧ ok = false))
    (inv := eInv env (k + 99)) (k := k + 99) (O := O) (w := w) (wv := wv) (av := av) (at_ := Pk.getN r3 (n : Int) (wd : Int)) hwl (by omega) Pk.getN_lt (ke0 := fun y1 y8 y12 y14 y15 y61 h_1 => some (.tuple #[y14, .bool true], h_1)) (kr := fun y4 y5 h_2 => some (.tuple #[y4, y5], h_2))
    (Pk.getN r3 (n : Int) (wd : Int)).length (i := 0) (j := k + 99) (out := []) (by omega) (by omega) rfl (S5.nil 1) ?_ ?_
  · rw [hgl] at goal
    exact goal
  · intro h' y l y1 y2 hlk S'
    rw [List.drop_zero] at hlk
    rw [List.nil_append] at S'
    have hll := lookT_len w _ hlk
    exact ⟨_, rfl, y, true, l, _, rfl, S'.keepO (.cons_cons _ (.cons _ (.cons _ (List.Sublist.refl _)))), by omega, .inl ⟨hlk, rfl⟩⟩
  · intro h' hlk SO
    rw [List.drop_zero] at hlk
    exact ⟨_, rfl, _, false, [], _, rfl, SO.nil 1, by simp, .inr ⟨hlk, rfl⟩⟩
theorem f23c {k : Nat} {h : AH} {v : Value} {b : List Nat} (B : Bytes h v b) (hb : ∀ x ∈ b, x < 256) (hl : b.length ≤ 2 ^ 30) (hk : 8 * b.length < k) (hk2 : 4096 < k) : Tl (eInv env (k + 900) (.func 23) #[] #[v] h) fun r => GetQ h b r := by
  rw [F23_call]
  unfold F23
  refine Tl.bind (f46c (k := k + 897) (Stt.init h) B hl) ?_
  rintro ⟨rr, h1⟩ ⟨br, rv, L1, er, S1, R1, g1⟩
  simp only at er S1
  subst er
  rw [List.nil_append] at S1 R1
  simp only [G23_4]
  cases b with
  | nil =>
    have hnum := f47n (k := k + 876) S1 rfl R1 (n := 1) (by omega) (by omega) (by simp)
    have e1 : ((1 : Nat) : Int) = 1 := rfl
    rw [e1] at hnum
    repeat (first | (with_reducible apply Tl.val; focus (simp (disch := omega) only [coreA, Int.reduceBEq, base_Xj, hnum] <;> with_reducible rfl)) | (with_reducible first | refine Tl.brT ?_ | refine Tl.brF ?_ | refine Tl.gd_on ?_ | refine Tl.gd3_on ?_) | ((with_reducible first | apply Tl.brC | apply Tl.gdC | apply Tl.gd3C); focus (simp (disch := omega) only [coreA, Int.reduceBEq, base_Xj, hnum] <;> with_reducible rfl)))
    refine Tl.bind (f48c (k := k + 879) S1 rfl R1 (by simp) (by simp)) ?_
    rintro rx (⟨n, r1, rv3, hd, er, S3, R3⟩ | ⟨hd, e, he, er⟩)
    · cases hd
    · cases er
      repeat (first | (with_reducible apply Tl.val; focus (simp (disch := omega) only [coreA, Int.reduceBEq, base_Xj] <;> with_reducible rfl)) | (with_reducible first | refine Tl.brT ?_ | refine Tl.brF ?_ | refine Tl.gd_on ?_ | refine Tl.gd3_on ?_) | ((with_reducible first | apply Tl.brC | apply Tl.gdC | apply Tl.gd3C); focus (simp (disch := omega) only [coreA, Int.reduceBEq, base_Xj] <;> with_reducible rfl)))
      exact ⟨_, rfl, .inr ⟨rfl, rfl, S1.grow⟩⟩
  | cons form r =>
  refine Tl.bind (f47c (k := k + 876) S1 rfl R1 (n := 1) (by omega) (by omega) (by simp) hl hb) ?_
  rintro ⟨rr, h2⟩ ⟨rv2, er, S2, R2⟩
  simp only at er S2
  subst er
  have ew : ofB ((form :: r).take 1) = form := by simp [ofB]
  rw [ew]
  have R2 : RV (Qb br rv2 :: L1) 0 rv2 r := R2
  have S2 : Stt Try.prog h.n h h2 (Qb br rv2 :: L1) [] := S2
  have hbr : ∀ x ∈ r, x < 256 := fun x hx => hb x (List.mem_cons_of_mem _ hx)
  have hf := hb form (List.mem_cons_self ..)
  have hlr : r.length + 1 ≤ 2 ^ 30 ∧ 8 * (r.length + 1) < k := by simp at hl hk; omega
  repeat (first | (with_reducible apply Tl.val; focus (simp (disch := omega) only [coreA, Int.reduceBEq, base_Xj] <;> with_reducible rfl)) | (with_reducible first | refine Tl.brT ?_ | refine Tl.brF ?_ | refine Tl.gd_on ?_ | refine Tl.gd3_on ?_) | ((with_reducible first | apply Tl.brC | apply Tl.gdC | apply Tl.gd3C); focus (simp (disch := omega) only [coreA, Int.reduceBEq, base_Xj] <;> with_reducible rfl)))
  refine Tl.bind (f48c (k := k + 879) S2 rfl R2 (by omega) hbr) ?_
  rintro rx (⟨n, r1, rv3, hd, er, S3, R3⟩ | ⟨hd, e, he, er⟩)
  case inr =>
    cases er
    have fin : getT (form :: r) = none := by unfold getT; simp only [hd]
    repeat (first | (with_reducible apply Tl.val; focus (simp (disch := omega) only [coreA, Int.reduceBEq, base_Xj] <;> with_reducible rfl)) | (with_reducible first | refine Tl.brT ?_ | refine Tl.brF ?_ | refine Tl.gd_on ?_ | refine Tl.gd3_on ?_) | ((with_reducible first | apply Tl.brC | apply Tl.gdC | apply Tl.gd3C); focus (simp (disch := omega) only [coreA, Int.reduceBEq, base_Xj] <;> with_reducible rfl)))
    exact ⟨_, rfl, .inr ⟨fin, rfl, S2.grow⟩⟩
  obtain ⟨rr, h3⟩ := rx
  simp only at er S3
  subst er
  have S3 : Stt Try.prog h.n h h3 (Qb br rv3 :: L1) [] := S3
  have R3 : RV (Qb br rv3 :: L1) 0 rv3 r1 := R3
  obtain ⟨d1, d2⟩ := decT_len r hd
  by_cases q1 : n > 4096
  · have fin : getT (form :: r) = none := by unfold getT; simp only [hd]; rw [if_pos q1]
    repeat (first | (with_reducible apply Tl.val; focus (simp (disch := omega) only [coreA, Int.reduceBEq, base_Xj] <;> with_reducible rfl)) | (with_reducible first | refine Tl.brT ?_ | refine Tl.brF ?_ | refine Tl.gd_on ?_ | refine Tl.gd3_on ?_) | ((with_reducible first | apply Tl.brC | apply Tl.gdC | apply Tl.gd3C); focus (simp (disch := omega) only [coreA, Int.reduceBEq, base_Xj] <;> with_reducible rfl)))
    exact ⟨_, rfl, .inr ⟨fin, rfl, S3.grow⟩⟩
  have hget : getT (form :: r) = match formT form n r1 with
      | none => none
      | some l => if putF form l = form :: r then some l else none := by unfold getT; simp only [hd]; rw [if_neg q1]; cases formT form n r1 <;> rfl
  have hb1 : ∀ x ∈ r1, x < 256 := fun x hx => hbr x (d2 x hx)
  repeat (first | (with_reducible apply Tl.val; focus (simp (disch := omega) only [coreA, Int.reduceBEq, base_Xj] <;> with_reducible rfl)) | (with_reducible first | refine Tl.brT ?_ | refine Tl.brF ?_ | refine Tl.gd_on ?_ | refine Tl.gd3_on ?_) | ((with_reducible first | apply Tl.brC | apply Tl.gdC | apply Tl.gd3C); focus (simp (disch := omega) only [coreA, Int.reduceBEq, base_Xj] <;> with_reducible rfl)))
  unfold F23_rlrrrrrrrr
  simp only [G23_16]
  by_cases f1 : form = 1
  · subst f1
    repeat (first | (with_reducible apply Tl.val; focus (simp (disch := omega) only [coreA, Int.reduceBEq, base_Xj] <;> with_reducible rfl)) | (with_reducible first | refine Tl.brT ?_ | refine Tl.brF ?_ | refine Tl.gd_on ?_ | refine Tl.gd3_on ?_) | ((with_reducible first | apply Tl.brC | apply Tl.gdC | apply Tl.gd3C); focus (simp (disch := omega) only [coreA, Int.reduceBEq, base_Xj] <;> with_reducible rfl)))
    refine Tl.bind (f49c (k := k + 877) S3 rfl R3 (n := n) (by omega) (by omega) (by omega) hb1) ?_
    rintro ⟨rr, h4⟩ ⟨ov, ok, l, rv4, r4, er, S4, R4, hll, hr, _, _⟩
    simp only at er S4
    subst er
    repeat (first | (with_reducible apply Tl.val; focus (simp (disch := omega) only [coreA, Int.reduceBEq, base_Xj] <;> with_reducible rfl)) | (with_reducible first | refine Tl.brT ?_ | refine Tl.brF ?_ | refine Tl.gd_on ?_ | refine Tl.gd3_on ?_) | ((with_reducible first | apply Tl.brC | apply Tl.gdC | apply Tl.gd3C); focus (simp (disch := omega) only [coreA, Int.reduceBEq, base_Xj] <;> with_reducible rfl)))
    refine Tl.bind (f20c (k := k + 877) (Stt.strs S4 0 rfl) (by omega) (by omega)) ?_
    rintro ⟨rr, h5⟩ ⟨av, er, S5⟩
    simp only at er S5
    subst er
    have S5 := S4.join S5
    have ca := convB (S5.sl1 (f := u8v) 0 rfl)
    have cb := convB (B.grow S5.grow)
    unfold formT putF at hget
    simp only [if_true] at hget
    rcases hr with ⟨hr, rfl⟩ | ⟨hr, rfl⟩
    · rw [hr] at hget
      simp only [Option.map_some] at hget
      by_cases q : plainG l = 1 :: r
      · have hq : ∀ x y, pBin Try.prog Go.BinOp.neq 9 x y (.string (strB (plainG l))) (.string (strB (1 :: r))) = some (.bool false) := fun x y => by rw [ne_s, q]; simp
        rw [if_pos q] at hget
        repeat (first | (with_reducible apply Tl.val; focus (simp (disch := omega) only [coreA, Int.reduceBEq, base_Xj, ca, cb, hq] <;> with_reducible rfl)) | (with_reducible first | refine Tl.brT ?_ | refine Tl.brF ?_ | refine Tl.gd_on ?_ | refine Tl.gd3_on ?_) | ((with_reducible first | apply Tl.brC | apply Tl.gdC | apply Tl.gd3C); focus (simp (disch := omega) only [coreA, Int.reduceBEq, base_Xj, ca, cb, hq] <;> with_reducible rfl)))
        exact ⟨_, rfl, .inl ⟨l, ov, hget, rfl, hll, _, S5.dropO⟩⟩
      · have hne : ¬ strB (plainG l) = strB (1 :: r) := fun h => q (strB_inj (plainG_256 l) hb h)
        have hq : ∀ x y, pBin Try.prog Go.BinOp.neq 9 x y (.string (strB (plainG l))) (.string (strB (1 :: r))) = some (.bool true) := fun x y => by rw [ne_s]; simp [hne]
        rw [if_neg q] at hget
        repeat (first | (with_reducible apply Tl.val; focus (simp (disch := omega) only [coreA, Int.reduceBEq, base_Xj, ca, cb, hq] <;> with_reducible rfl)) | (with_reducible first | refine Tl.brT ?_ | refine Tl.brF ?_ | refine Tl.gd_on ?_ | refine Tl.gd3_on ?_) | ((with_reducible first | apply Tl.brC | apply Tl.gdC | apply Tl.gd3C); focus (simp (disch := omega) only [coreA, Int.reduceBEq, base_Xj, ca, cb, hq] <;> with_reducible rfl)))
        exact ⟨_, rfl, .inr ⟨hget, rfl, S5.grow⟩⟩
    · rw [hr] at hget
      repeat (first | (with_reducible apply Tl.val; focus (simp (disch := omega) only [coreA, Int.reduceBEq, base_Xj] <;> with_reducible rfl)) | (with_reducible first | refine Tl.brT ?_ | refine Tl.brF ?_ | refine Tl.gd_on ?_ | refine Tl.gd3_on ?_) | ((with_reducible first | apply Tl.brC | apply Tl.gdC | apply Tl.gd3C); focus (simp (disch := omega) only [coreA, Int.reduceBEq, base_Xj] <;> with_reducible rfl)))
      exact ⟨_, rfl, .inr ⟨hget, rfl, S5.grow⟩⟩
  by_cases f2 : form = 2
  · subst f2
    repeat (first | (with_reducible apply Tl.val; focus (simp (disch := omega) only [coreA, Int.reduceBEq, base_Xj] <;> with_reducible rfl)) | (with_reducible first | refine Tl.brT ?_ | refine Tl.brF ?_ | refine Tl.gd_on ?_ | refine Tl.gd3_on ?_) | ((with_reducible first | apply Tl.brC | apply Tl.gdC | apply Tl.gd3C); focus (simp (disch := omega) only [coreA, Int.reduceBEq, base_Xj] <;> with_reducible rfl)))
    refine Tl.bind (f50c (k := k + 799) S3 rfl R3 (n := n) (by omega) (by omega) (by omega) (by omega) hb1) ?_
    rintro ⟨rr, h4⟩ ⟨ov, ok, l, L4, er, S4, hll, hr⟩
    simp only at er S4
    subst er
    repeat (first | (with_reducible apply Tl.val; focus (simp (disch := omega) only [coreA, Int.reduceBEq, base_Xj] <;> with_reducible rfl)) | (with_reducible first | refine Tl.brT ?_ | refine Tl.brF ?_ | refine Tl.gd_on ?_ | refine Tl.gd3_on ?_) | ((with_reducible first | apply Tl.brC | apply Tl.gdC | apply Tl.gd3C); focus (simp (disch := omega) only [coreA, Int.reduceBEq, base_Xj] <;> with_reducible rfl)))
    refine Tl.bind (f21c (k := k + 499) (Stt.strs S4 0 rfl) (by omega) (by omega)) ?_
    rintro ⟨rr, h5⟩ ⟨av, er, S5⟩
    simp only at er S5
    subst er
    have S5 := S4.join S5
    have ca := convB (S5.sl1 (f := u8v) 0 rfl)
    have cb := convB (B.grow S5.grow)
    unfold formT putF at hget
    simp only [if_neg f1, if_true] at hget
    rcases hr with ⟨hr, rfl⟩ | ⟨hr, rfl⟩
    · rw [hr] at hget
      simp only at hget
      by_cases q : dictG l = 2 :: r
      · have hq : ∀ x y, pBin Try.prog Go.BinOp.neq 9 x y (.string (strB (dictG l))) (.string (strB (2 :: r))) = some (.bool false) := fun x y => by rw [ne_s, q]; simp
        rw [if_pos q] at hget
        repeat (first | (with_reducible apply Tl.val; focus (simp (disch := omega) only [coreA, Int.reduceBEq, base_Xj, ca, cb, hq] <;> with_reducible rfl)) | (with_reducible first | refine Tl.brT ?_ | refine Tl.brF ?_ | refine Tl.gd_on ?_ | refine Tl.gd3_on ?_) | ((with_reducible first | apply Tl.brC | apply Tl.gdC | apply Tl.gd3C); focus (simp (disch := omega) only [coreA, Int.reduceBEq, base_Xj, ca, cb, hq] <;> with_reducible rfl)))
        exact ⟨_, rfl, .inl ⟨l, ov, hget, rfl, hll, _, S5.dropO⟩⟩
      · have hne : ¬ strB (dictG l) = strB (2 :: r) := fun h => q (strB_inj (dictG_256 l) hb h)
        have hq : ∀ x y, pBin Try.prog Go.BinOp.neq 9 x y (.string (strB (dictG l))) (.string (strB (2 :: r))) = some (.bool true) := fun x y => by rw [ne_s]; simp [hne]
        rw [if_neg q] at hget
        repeat (first | (with_reducible apply Tl.val; focus (simp (disch := omega) only [coreA, Int.reduceBEq, base_Xj, ca, cb, hq] <;> with_reducible rfl)) | (with_reducible first | refine Tl.brT ?_ | refine Tl.brF ?_ | refine Tl.gd_on ?_ | refine Tl.gd3_on ?_) | ((with_reducible first | apply Tl.brC | apply Tl.gdC | apply Tl.gd3C); focus (simp (disch := omega) only [coreA, Int.reduceBEq, base_Xj, ca, cb, hq] <;> with_reducible rfl)))
        exact ⟨_, rfl, .inr ⟨hget, rfl, S5.grow⟩⟩
    · rw [hr] at hget
      repeat (first | (with_reducible apply Tl.val; focus (simp (disch := omega) only [coreA, Int.reduceBEq, base_Xj] <;> with_reducible rfl)) | (with_reducible first | refine Tl.brT ?_ | refine Tl.brF ?_ | refine Tl.gd_on ?_ | refine Tl.gd3_on ?_) | ((with_reducible first | apply Tl.brC | apply Tl.gdC | apply Tl.gd3C); focus (simp (disch := omega) only [coreA, Int.reduceBEq, base_Xj] <;> with_reducible rfl)))
      exact ⟨_, rfl, .inr ⟨hget, rfl, S5.grow⟩⟩
  · have fin : getT (form :: r) = none := by
      rw [hget]
      unfold formT
      rw [if_neg f1, if_neg f2]
    repeat (first | (with_reducible apply Tl.val; focus (simp (disch := omega) only [coreA, Int.reduceBEq, base_Xj] <;> with_reducible rfl)) | (with_reducible first | refine Tl.brT ?_ | refine Tl.brF ?_ | refine Tl.gd_on ?_ | refine Tl.gd3_on ?_) | ((with_reducible first | apply Tl.brC | apply Tl.gdC | apply Tl.gd3C); focus (simp (disch := omega) only [coreA, Int.reduceBEq, base_Xj] <;> with_reducible rfl)))
    exact ⟨_, rfl, .inr ⟨fin, rfl, S3.grow⟩⟩
end
end Go.Proofs.Ytagcejlclcldcaa.Sh
