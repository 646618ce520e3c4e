/- Readers of numbers: 'plain', 'runs', 'packed'. -/
import Derived.Test.YtcidbbkefpeahaaSzIc
import Derived.Test.YtcidbbkefpeahaaSzIr
import Derived.Test.YtcidbbkefpeahaaSzBs
set_option linter.unusedVariables false
set_option linter.unusedSimpArgs false
set_option maxRecDepth 100000
namespace Go.Proofs.Ytcidbbkefpeahaa.Sh
open Go Go.RowKit Go.Proofs.Ev
/-- A number without a sign as one with. -/
def toI (x : Nat) : Int := if x ≥ 9223372036854775808 then (x : Int) - 18446744073709551616 else x
theorem wrapI {x : Nat} (hx : x < 18446744073709551616) : IntKind.i64.wrap (x : Int) = toI x := by
  rw [wrap_i64']
  unfold toI
  split <;> split <;> omega
theorem base_Id : type_of% (And.intro @ld3 (And.intro @ld2 (And.intro @ld4 (And.intro @ld5 (And.intro @ld51 (And.intro @ld26 (And.intro @ld25 (And.intro @ld50 (And.intro (fun a h => conv_int (a := a) (h := h) u3 u51) (And.intro (fun a h => conv_int (a := a) (h := h) u2 u51) (And.intro (fun a h => conv_int (a := a) (h := h) u51 u5) (And.intro (fun a h => conv_int (a := a) (h := h) u51 u2) (And.intro (fun a h => conv_int (a := a) (h := h) u51 u3) (And.intro (fun a h => conv_int (a := a) (h := h) u3 u5) (And.intro @ex2_0 (@ex2_1)))))))))))))))) := And.intro @ld3 (And.intro @ld2 (And.intro @ld4 (And.intro @ld5 (And.intro @ld51 (And.intro @ld26 (And.intro @ld25 (And.intro @ld50 (And.intro (fun a h => conv_int (a := a) (h := h) u3 u51) (And.intro (fun a h => conv_int (a := a) (h := h) u2 u51) (And.intro (fun a h => conv_int (a := a) (h := h) u51 u5) (And.intro (fun a h => conv_int (a := a) (h := h) u51 u2) (And.intro (fun a h => conv_int (a := a) (h := h) u51 u3) (And.intro (fun a h => conv_int (a := a) (h := h) u3 u5) (And.intro @ex2_0 (@ex2_1)))))))))))))))
theorem ofB8 {r : List Nat} (hb : ∀ x ∈ r, x < 256) : ofB (r.take 8) < 18446744073709551616 := by
  have h1 := ofB_lt (r.take 8) fun x hx => hb x (List.mem_of_mem_take hx)
  have h2 : 256 ^ (r.take 8).length ≤ 256 ^ 8 := Nat.pow_le_pow_right (by decide) (by simp; omega)
  have h3 : (256 : Nat) ^ 8 = 18446744073709551616 := by decide
  omega
def plainG : Nat → List Nat → Option (List Int)
  | 0, _ => some []
  | n + 1, r => if r.length < 8 then none else (plainG n (r.drop 8)).map (toI (ofB (r.take 8)) :: ·)
def runsG : Nat → Nat → List Nat → Option (List Int)
  | 0, n, _ => if n = 0 then some [] else none
  | f + 1, n, r => if n = 0 then some [] else match dec 0 0 r with
    | none => none
    | some (k, r1) => if r1.length < 8 ∨ k < 1 ∨ k > n then none else (runsG f (n - k) (r1.drop 8)).map (List.replicate k (toI (ofB (r1.take 8))) ++ ·)
def packG (n : Nat) (r : List Nat) : Option (List Int) := if r.length < 9 then none else
  if Pk.checkE (r.drop 9) n (ofB ((r.drop 8).take 1) : Nat) ≠ 0 then none else some ((Pk.getN (r.drop 9) n (ofB ((r.drop 8).take 1) : Nat)).map fun v => toI ((ofB (r.take 8) + v) % 18446744073709551616))
def kindG (kd n : Nat) (r : List Nat) : Option (List Int) := if kd = 1 then plainG n r else if kd = 2 then runsG n n r else packG n r
theorem plainG_len : ∀ (n : Nat) {r : List Nat} {l : List Int}, plainG n r = some l → l.length = n := by
  intro n
  induction n with
  | zero => intro r l h; cases h; rfl
  | succ n ih =>
    intro r l h
    unfold plainG at h
    split at h
    · cases h
    · obtain ⟨m, h1, rfl⟩ := Option.map_eq_some_iff.1 h
      simp [ih h1]
theorem runsG_len : ∀ (f n : Nat) {r : List Nat} {l : List Int}, runsG f n r = some l → l.length = n := by
  intro f
  induction f with
  | zero =>
    intro n r l h
    unfold runsG at h
    split at h
    · cases h; simp [*]
    · cases h
  | succ f ih =>
    intro n r l h
    unfold runsG at h
    split at h
    · cases h; simp [*]
    · split at h
      · cases h
      · split at h
        · cases h
        · obtain ⟨m, h1, rfl⟩ := Option.map_eq_some_iff.1 h
          simp [ih _ h1]; omega
theorem packG_len {n : Nat} {r : List Nat} {l : List Int} (h : packG n r = some l) : l.length = n := by
  unfold packG at h
  split at h
  · cases h
  · split at h
    · cases h
    · rename_i q
      have q : Pk.checkE (r.drop 9) n (ofB ((r.drop 8).take 1) : Nat) = 0 := Decidable.byContradiction q
      cases h
      rw [List.length_map]
      unfold Pk.getN
      rw [if_pos q, digs_len]; simp
theorem kindG_len {kd n : Nat} {r : List Nat} {l : List Int} (h : kindG kd n r = some l) : l.length = n := by
  unfold kindG at h
  split at h
  · exact plainG_len _ h
  · split at h
    · exact runsG_len _ _ h
    · exact packG_len h
theorem dec_len : ∀ (b : List Nat) {i acc v : Nat} {rest : List Nat}, dec i acc b = some (v, rest) → rest.length < b.length ∧ ∀ x ∈ rest, x ∈ b := by
  intro b
  induction b with
  | nil => intro i acc v rest h; simp [dec] at h
  | cons c b ih =>
    intro i acc v rest h
    unfold dec at h
    split at h
    · cases h
    · split at h
      · cases h
      · split at h
        · obtain ⟨h1, h2⟩ := ih h
          exact ⟨by simp; omega, fun x hx => by simp [h2 x hx]⟩
        · split at h
          · cases h
          · cases h
            exact ⟨by simp, fun x hx => by simp [hx]⟩
/-- What a reader of numbers comes to. -/
def ReadQ (n0 : Nat) (h0 : AH) (br : Nat) (L : List (Nat × AO)) (O : List OS) (res : Option (List Int)) (r : Value × AH) : Prop :=
  (∃ l rv o O', res = some l ∧ r.1 = .tuple #[o, .int .i64 0] ∧ Stt Try.prog n0 h0 r.2 (Rb br rv :: L) ((o, 1, i6rows l) :: O')) ∨
  (res = none ∧ ∃ o e, e ≠ 0 ∧ r.1 = .tuple #[o, .int .i64 e] ∧ Stt Try.prog n0 h0 r.2 L O)
theorem f50_loop {β : Type} {k : Nat} {Q : β → Prop} {n0 : Nat} {h0 : AH} {L : List (Nat × AO)} {O : List OS} {br m : Nat} (hm : m ≤ 100000)
    {ke0 : Value → Value → Value → Value → Value → AH → Option β} {kr : Value → Value → AH → Option β} (n : Nat) :
    ∀ {i j : Nat} {h : AH} {rv ov : Value} {rest : List Nat} {done : List Int}, i + n = m → n < j → done.length = i → rest.length ≤ 2 ^ 30 → (∀ x ∈ rest, x < 256) →
      Stt Try.prog n0 h0 h (Rb br rv :: L) ((ov, 1, i6rows done) :: O) → RV (Rb br rv :: L) 0 rv rest →
      (∀ l, plainG n rest = some l → ∀ h' rv' ov' y y', Stt Try.prog n0 h0 h' (Rb br rv' :: L) ((ov', 1, i6rows (done ++ l)) :: O) → Tl (ke0 (ptr br) ov' (.int .i64 m) y y' h') Q) →
      (plainG n rest = none → ∀ h' e, e ≠ 0 → Stt Try.prog n0 h0 h' L O → Tl (kr (.slice none 0 0) (.int .i64 e) h') Q) →
      Tl (F50_lrlr (eInv env (k + 23)) (k + 23) j (ptr br) ov (.int .i64 m) (.int .i64 i) h ke0 kr) Q := by
  induction n with
  | zero =>
    intro i j h rv ov rest done hi hj hd hl hb S R hk hr
    obtain ⟨j, rfl⟩ : ∃ q, j = q + 1 := ⟨j - 1, by omega⟩
    simp only [F50_lrlr]
    repeat (first | (with_reducible apply Tl.val; focus (simp (disch := omega) only [coreA, Int.reduceBEq, base_Id] <;> with_reducible rfl)) | (with_reducible first | refine Tl.brT ?_ | refine Tl.brF ?_ | refine Tl.gd_on ?_ | refine Tl.gd3_on ?_) | ((with_reducible first | apply Tl.brC | apply Tl.gdC | apply Tl.gd3C); focus (simp (disch := omega) only [coreA, Int.reduceBEq, base_Id] <;> with_reducible rfl)))
    exact hk [] rfl _ rv _ _ _ (by simpa using S)
  | succ n ih =>
    intro i j h rv ov rest done hi hj hd hl hb S R hk hr
    obtain ⟨j, rfl⟩ : ∃ q, j = q + 1 := ⟨j - 1, by omega⟩
    have e : (i : Int) + 1 = ((i + 1 : Nat) : Int) := by omega
    have e8 : ((8 : Nat) : Int) = 8 := rfl
    simp only [F50_lrlr]
    unfold plainG at hk hr
    by_cases q : rest.length < 8
    · rw [if_pos q] at hr
      have T := f35n (k := k) S rfl R (n := 8) (by omega) (by omega) q
      rw [e8] at T
      repeat (first | (with_reducible apply Tl.val; focus (simp (disch := omega) only [coreA, Int.reduceBEq, base_Id] <;> with_reducible rfl)) | (with_reducible first | refine Tl.brT ?_ | refine Tl.brF ?_ | refine Tl.gd_on ?_ | refine Tl.gd3_on ?_) | ((with_reducible first | apply Tl.brC | apply Tl.gdC | apply Tl.gd3C); focus (simp (disch := omega) only [coreA, Int.reduceBEq, base_Id] <;> with_reducible rfl)))
      refine Tl.bind T ?_
      rintro ⟨r, h1⟩ ⟨er, g1⟩
      simp only at er g1
      subst er
      repeat (first | (with_reducible apply Tl.val; focus (simp (disch := omega) only [coreA, Int.reduceBEq, base_Id] <;> with_reducible rfl)) | (with_reducible first | refine Tl.brT ?_ | refine Tl.brF ?_ | refine Tl.gd_on ?_ | refine Tl.gd3_on ?_) | ((with_reducible first | apply Tl.brC | apply Tl.gdC | apply Tl.gd3C); focus (simp (disch := omega) only [coreA, Int.reduceBEq, base_Id] <;> with_reducible rfl)))
      exact hr rfl _ 7 (by decide) (S.call g1).dropO.drop
    · simp only [if_neg q] at hk hr
      have T := f35c (k := k) S rfl R (n := 8) (by omega) (by omega) (by omega) hl hb
      rw [e8] at T
      have o8 := wrapI (ofB8 hb)
      repeat (first | (with_reducible apply Tl.val; focus (simp (disch := omega) only [coreA, Int.reduceBEq, base_Id] <;> with_reducible rfl)) | (with_reducible first | refine Tl.brT ?_ | refine Tl.brF ?_ | refine Tl.gd_on ?_ | refine Tl.gd3_on ?_) | ((with_reducible first | apply Tl.brC | apply Tl.gdC | apply Tl.gd3C); focus (simp (disch := omega) only [coreA, Int.reduceBEq, base_Id] <;> with_reducible rfl)))
      refine Tl.bind T ?_
      rintro ⟨r, h1⟩ ⟨rv', er, S1, R1⟩
      simp only at er S1
      subst er
      have S1 : Stt Try.prog n0 h0 h1 (Rb br rv' :: L) ((ov, 1, i6rows done) :: O) := S1
      have R1 : RV (Rb br rv' :: L) 0 rv' (rest.drop 8) := R1
      repeat (first | (with_reducible apply Tl.val; focus (simp (disch := omega) only [coreA, Int.reduceBEq, base_Id, o8] <;> with_reducible rfl)) | (with_reducible first | refine Tl.brT ?_ | refine Tl.brF ?_ | refine Tl.gd_on ?_ | refine Tl.gd3_on ?_) | ((with_reducible first | apply Tl.brC | apply Tl.gdC | apply Tl.gd3C); focus (simp (disch := omega) only [coreA, Int.reduceBEq, base_Id, o8] <;> with_reducible rfl)))
      refine Tl.push S1 0 rfl app25 (bs25 _ _) rfl rfl (by rw [i6rows_len]; omega) fun ov' h2 S2 => ?_
      repeat (first | (with_reducible apply Tl.val; focus (simp (disch := omega) only [coreA, Int.reduceBEq, base_Id] <;> with_reducible rfl)) | (with_reducible first | refine Tl.brT ?_ | refine Tl.brF ?_ | refine Tl.gd_on ?_ | refine Tl.gd3_on ?_) | ((with_reducible first | apply Tl.brC | apply Tl.gdC | apply Tl.gd3C); focus (simp (disch := omega) only [coreA, Int.reduceBEq, base_Id] <;> with_reducible rfl)))
      rw [e]
      refine ih (done := done ++ [toI (ofB (rest.take 8))]) (by omega) (by omega) (by simp [hd]) (by simp; omega) (fun x hx => hb x (List.mem_of_mem_drop hx)) (by simpa [i6rows, i6v] using S2) R1 (fun l hl' h' rv2 ov2 y y' S3 => ?_) (fun hn => hr (by rw [hn]; rfl))
      exact hk _ (by rw [hl']; rfl) h' rv2 ov2 y y' (by simpa using S3)
theorem f50c {k : Nat} {n0 : Nat} {h0 h : AH} {L : List (Nat × AO)} {O : List OS} {br n : Nat} {rv : Value} {rest : List Nat} (S : Stt Try.prog n0 h0 h (Rb br rv :: L) O) (R : RV (Rb br rv :: L) 0 rv rest) (hn : n ≤ 4096)
    (hl : rest.length ≤ 5000) (hb : ∀ x ∈ rest, x < 256) : Tl (eInv env (k + 6000) (.func 50) #[] #[ptr br, .int .i64 n] h) (ReadQ n0 h0 br L O (plainG n rest)) := by
  rw [F50_call]
  unfold F50
  refine f50_loop (k := k + 5976) (m := n) (by omega) n (i := 0) (done := []) (by omega) (by omega) rfl (by omega) hb (S.nil 1) R (fun l hl' h' rv' ov' y y' S' => ?_) (fun hn' h' e he S' => ?_)
  · exact ⟨_, rfl, .inl ⟨l, rv', ov', O, hl', rfl, by simpa using S'⟩⟩
  · exact ⟨_, rfl, .inr ⟨hn', _, e, he, rfl, S'⟩⟩
theorem f51_loop {β : Type} {k : Nat} {Q : β → Prop} {n0 : Nat} {h0 : AH} {L : List (Nat × AO)} {O : List OS} {br m : Nat} (hm : m ≤ 4096)
    {ke0 : Value → Value → Value → Value → AH → Option β} {kr : Value → Value → AH → Option β} (f : Nat) :
    ∀ {n j : Nat} {h : AH} {rv ov : Value} {rest : List Nat} {done : List Int}, n ≤ f → f < j → done.length + n = m → rest.length ≤ 5000 → (∀ x ∈ rest, x < 256) →
      Stt Try.prog n0 h0 h (Rb br rv :: L) ((ov, 1, i6rows done) :: O) → RV (Rb br rv :: L) 0 rv rest →
      (∀ l, runsG f n rest = some l → ∀ h' rv' ov' y, Stt Try.prog n0 h0 h' (Rb br rv' :: L) ((ov', 1, i6rows (done ++ l)) :: O) → Tl (ke0 (ptr br) (.int .i64 m) ov' y h') Q) →
      (runsG f n rest = none → ∀ h' e, e ≠ 0 → Stt Try.prog n0 h0 h' L O → Tl (kr (.slice none 0 0) (.int .i64 e) h') Q) →
      Tl (F51_llr (eInv env (k + 5999)) (k + 5999) j (ptr br) (.int .i64 m) ov h ke0 kr) Q := by
  induction f with
  | zero =>
    intro n j h rv ov rest done hf hj hd hl hb S R hk hr
    obtain ⟨j, rfl⟩ : ∃ q, j = q + 1 := ⟨j - 1, by omega⟩
    have hn : n = 0 := by omega
    subst hn
    have hlen : ∀ h', pLen Try.prog #[25] ov h' = some (.int .i64 done.length) := fun h' => Sl1.len (S.sl1 (f := i6v) 0 rfl) u25
    simp only [F51_llr]
    repeat (first | (with_reducible apply Tl.val; focus (simp (disch := omega) only [coreA, Int.reduceBEq, base_Id, hlen] <;> with_reducible rfl)) | (with_reducible first | refine Tl.brT ?_ | refine Tl.brF ?_ | refine Tl.gd_on ?_ | refine Tl.gd3_on ?_) | ((with_reducible first | apply Tl.brC | apply Tl.gdC | apply Tl.gd3C); focus (simp (disch := omega) only [coreA, Int.reduceBEq, base_Id, hlen] <;> with_reducible rfl)))
    exact hk [] rfl _ rv _ _ (by simpa using S)
  | succ f ih =>
    intro n j h rv ov rest done hf hj hd hl hb S R hk hr
    obtain ⟨j, rfl⟩ : ∃ q, j = q + 1 := ⟨j - 1, by omega⟩
    have hlen : ∀ h', pLen Try.prog #[25] ov h' = some (.int .i64 done.length) := fun h' => Sl1.len (S.sl1 (f := i6v) 0 rfl) u25
    simp only [F51_llr]
    unfold runsG at hk hr
    by_cases q0 : n = 0
    · simp only [if_pos q0] at hk hr
      repeat (first | (with_reducible apply Tl.val; focus (simp (disch := omega) only [coreA, Int.reduceBEq, base_Id, hlen] <;> with_reducible rfl)) | (with_reducible first | refine Tl.brT ?_ | refine Tl.brF ?_ | refine Tl.gd_on ?_ | refine Tl.gd3_on ?_) | ((with_reducible first | apply Tl.brC | apply Tl.gdC | apply Tl.gd3C); focus (simp (disch := omega) only [coreA, Int.reduceBEq, base_Id, hlen] <;> with_reducible rfl)))
      exact hk [] rfl _ rv _ _ (by simpa using S)
    · simp only [if_neg q0] at hk hr
      repeat (first | (with_reducible apply Tl.val; focus (simp (disch := omega) only [coreA, Int.reduceBEq, base_Id, hlen] <;> with_reducible rfl)) | (with_reducible first | refine Tl.brT ?_ | refine Tl.brF ?_ | refine Tl.gd_on ?_ | refine Tl.gd3_on ?_) | ((with_reducible first | apply Tl.brC | apply Tl.gdC | apply Tl.gd3C); focus (simp (disch := omega) only [coreA, Int.reduceBEq, base_Id, hlen] <;> with_reducible rfl)))
      refine Tl.bind (f36c (k := k + 5993) S rfl R (by omega) hb (by omega)) ?_
      rintro ⟨r, h1⟩ hr1
      rcases hr1 with ⟨kk, r1, rv1, hdec, er, S1, R1⟩ | ⟨hdec, e, he, er⟩
      · simp only at er S1
        subst er
        have S1 : Stt Try.prog n0 h0 h1 (Rb br rv1 :: L) ((ov, 1, i6rows done) :: O) := S1
        have R1 : RV (Rb br rv1 :: L) 0 rv1 r1 := R1
        obtain ⟨dl1, dl2⟩ := dec_len rest hdec
        have hb1 : ∀ x ∈ r1, x < 256 := fun x hx => hb x (dl2 x hx)
        simp only [hdec] at hk hr
        have e8 : ((8 : Nat) : Int) = 8 := rfl
        repeat (first | (with_reducible apply Tl.val; focus (simp (disch := omega) only [coreA, Int.reduceBEq, base_Id] <;> with_reducible rfl)) | (with_reducible first | refine Tl.brT ?_ | refine Tl.brF ?_ | refine Tl.gd_on ?_ | refine Tl.gd3_on ?_) | ((with_reducible first | apply Tl.brC | apply Tl.gdC | apply Tl.gd3C); focus (simp (disch := omega) only [coreA, Int.reduceBEq, base_Id] <;> with_reducible rfl)))
        by_cases q1 : r1.length < 8
        · rw [if_pos (.inl q1)] at hr
          have T := f35n (k := k + 5976) S1 rfl R1 (n := 8) (by omega) (by omega) q1
          rw [e8] at T
          refine Tl.bind T ?_
          rintro ⟨r, h2⟩ ⟨er, g2⟩
          simp only at er g2
          subst er
          repeat (first | (with_reducible apply Tl.val; focus (simp (disch := omega) only [coreA, Int.reduceBEq, base_Id] <;> with_reducible rfl)) | (with_reducible first | refine Tl.brT ?_ | refine Tl.brF ?_ | refine Tl.gd_on ?_ | refine Tl.gd3_on ?_) | ((with_reducible first | apply Tl.brC | apply Tl.gdC | apply Tl.gd3C); focus (simp (disch := omega) only [coreA, Int.reduceBEq, base_Id] <;> with_reducible rfl)))
          exact hr rfl _ 4 (by decide) (S1.call g2).dropO.drop
        · have T := f35c (k := k + 5976) S1 rfl R1 (n := 8) (by omega) (by omega) (by omega) (by omega) hb1
          rw [e8] at T
          have o8 := wrapI (ofB8 hb1)
          refine Tl.bind T ?_
          rintro ⟨r, h2⟩ ⟨rv2, er, S2, R2⟩
          simp only at er S2
          subst er
          have S2 : Stt Try.prog n0 h0 h2 (Rb br rv2 :: L) ((ov, 1, i6rows done) :: O) := S2
          have R2 : RV (Rb br rv2 :: L) 0 rv2 (r1.drop 8) := R2
          by_cases q2 : kk < 1
          · rw [if_pos (.inr (.inl q2))] at hr
            repeat (first | (with_reducible apply Tl.val; focus (simp (disch := omega) only [coreA, Int.reduceBEq, base_Id, hlen] <;> with_reducible rfl)) | (with_reducible first | refine Tl.brT ?_ | refine Tl.brF ?_ | refine Tl.gd_on ?_ | refine Tl.gd3_on ?_) | ((with_reducible first | apply Tl.brC | apply Tl.gdC | apply Tl.gd3C); focus (simp (disch := omega) only [coreA, Int.reduceBEq, base_Id, hlen] <;> with_reducible rfl)))
            exact hr rfl _ 4 (by decide) S2.dropO.drop
          · by_cases q3 : kk > n
            · rw [if_pos (.inr (.inr q3))] at hr
              repeat (first | (with_reducible apply Tl.val; focus (simp (disch := omega) only [coreA, Int.reduceBEq, base_Id, hlen] <;> with_reducible rfl)) | (with_reducible first | refine Tl.brT ?_ | refine Tl.brF ?_ | refine Tl.gd_on ?_ | refine Tl.gd3_on ?_) | ((with_reducible first | apply Tl.brC | apply Tl.gdC | apply Tl.gd3C); focus (simp (disch := omega) only [coreA, Int.reduceBEq, base_Id, hlen] <;> with_reducible rfl)))
              exact hr rfl _ 4 (by decide) S2.dropO.drop
            · have qq : ¬ (r1.length < 8 ∨ kk < 1 ∨ kk > n) := by omega
              simp only [if_neg qq] at hk hr
              repeat (first | (with_reducible apply Tl.val; focus (simp (disch := omega) only [coreA, Int.reduceBEq, base_Id, hlen, o8, bs25] <;> with_reducible rfl)) | (with_reducible first | refine Tl.brT ?_ | refine Tl.brF ?_ | refine Tl.gd_on ?_ | refine Tl.gd3_on ?_) | ((with_reducible first | apply Tl.brC | apply Tl.gdC | apply Tl.gd3C); focus (simp (disch := omega) only [coreA, Int.reduceBEq, base_Id, hlen, o8, bs25] <;> with_reducible rfl)))
              have S3 := S2.alloc (.cells [.int .i64 (toI (ofB (r1.take 8)))] 2 true)
              refine Tl.callO S3.drop (f66c (k := k + 5996) (x := toI (ofB (r1.take 8))) (n := kk) (S3.lit 0 rfl rfl) (by omega) (by omega)) fun pv h4 S4 g4 => ?_
              refine Tl.append' S4 1 rfl app25 (S4.slV 0 rfl) (one_i6rows _) (by rw [i6rows_len, i6rows_len, List.length_replicate]; omega) fun ov2 h5 S5 => ?_
              have S5 : Stt Try.prog n0 h0 h5 (Rb br rv2 :: L) ((ov2, 1, i6rows (done ++ List.replicate kk (toI (ofB (r1.take 8))))) :: O) := by
                have := S5.dropO
                simpa [i6rows] using this
              repeat (first | (with_reducible apply Tl.val; focus (simp (disch := omega) only [coreA, Int.reduceBEq, base_Id] <;> with_reducible rfl)) | (with_reducible first | refine Tl.brT ?_ | refine Tl.brF ?_ | refine Tl.gd_on ?_ | refine Tl.gd3_on ?_) | ((with_reducible first | apply Tl.brC | apply Tl.gdC | apply Tl.gd3C); focus (simp (disch := omega) only [coreA, Int.reduceBEq, base_Id] <;> with_reducible rfl)))
              refine ih (n := n - kk) (done := done ++ List.replicate kk (toI (ofB (r1.take 8)))) (by omega) (by omega) (by simp; omega) (by simp; omega) (fun x hx => hb1 x (List.mem_of_mem_drop hx)) S5 R2 (fun l hl' h' rv3 ov3 y S6 => ?_) (fun hn => hr (by rw [hn]; rfl))
              exact hk _ (by rw [hl']; rfl) h' rv3 ov3 y (by simpa using S6)
      · cases er
        simp only [hdec] at hr
        repeat (first | (with_reducible apply Tl.val; focus (simp (disch := omega) only [coreA, Int.reduceBEq, base_Id] <;> with_reducible rfl)) | (with_reducible first | refine Tl.brT ?_ | refine Tl.brF ?_ | refine Tl.gd_on ?_ | refine Tl.gd3_on ?_) | ((with_reducible first | apply Tl.brC | apply Tl.gdC | apply Tl.gd3C); focus (simp (disch := omega) only [coreA, Int.reduceBEq, base_Id] <;> with_reducible rfl)))
        exact hr trivial _ e he S.dropO.drop
theorem f51c {k : Nat} {n0 : Nat} {h0 h : AH} {L : List (Nat × AO)} {O : List OS} {br n : Nat} {rv : Value} {rest : List Nat} (S : Stt Try.prog n0 h0 h (Rb br rv :: L) O) (R : RV (Rb br rv :: L) 0 rv rest) (hn : n ≤ 4096)
    (hl : rest.length ≤ 5000) (hb : ∀ x ∈ rest, x < 256) : Tl (eInv env (k + 6000) (.func 51) #[] #[ptr br, .int .i64 n] h) (ReadQ n0 h0 br L O (runsG n n rest)) := by
  rw [F51_call]
  unfold F51
  refine f51_loop (k := k) (m := n) hn n (done := []) (Nat.le_refl _) (by omega) (by simp) hl hb (S.nil 1) R (fun l hl' h' rv' ov' y S' => ?_) (fun hn' h' e he S' => ?_)
  · exact ⟨_, rfl, .inl ⟨l, rv', ov', O, hl', rfl, by simpa using S'⟩⟩
  · exact ⟨_, rfl, .inr ⟨hn', _, e, he, rfl, S'⟩⟩
theorem f52_loop {β : Type} {k : Nat} {Q : β → Prop} {n0 : Nat} {h0 : AH} {L : List (Nat × AO)} {O : List OS} {gv x5 : Value} {g : List Nat} {least : Nat} (hg : g.length ≤ 65536) (hgl : ∀ x ∈ g, x < 18446744073709551616) (hle : least < 18446744073709551616)
    {ke0 : Value → Value → Value → Value → Value → Value → Value → AH → Option β} (n : Nat) :
    ∀ {i j : Nat} {h : AH} {ov : Value} {done : List Int}, i + n = g.length → n < j → done.length = i →
      Stt Try.prog n0 h0 h L ((ov, 1, i6rows done) :: (gv, 1, u64rows g) :: O) →
      (∀ h' ov' y y', Stt Try.prog n0 h0 h' L ((ov', 1, i6rows (done ++ (g.drop i).map fun v => toI ((least + v) % 18446744073709551616))) :: (gv, 1, u64rows g) :: O) → Tl (ke0 ov' x5 (.int .u64 least) gv (.int .i64 g.length) y y' h') Q) →
      Tl (F52_lrlrrrrrrrr (eInv env k) k j ov x5 (.int .u64 least) gv (.int .i64 g.length) (.int .i64 i) h ke0) Q := by
  induction n with
  | zero =>
    intro i j h ov done hi hj hd S hk
    obtain ⟨j, rfl⟩ : ∃ q, j = q + 1 := ⟨j - 1, by omega⟩
    simp only [F52_lrlrrrrrrrr]
    repeat (first | (with_reducible apply Tl.val; focus (simp (disch := omega) only [coreA, Int.reduceBEq, base_Id] <;> with_reducible rfl)) | (with_reducible first | refine Tl.brT ?_ | refine Tl.brF ?_ | refine Tl.gd_on ?_ | refine Tl.gd3_on ?_) | ((with_reducible first | apply Tl.brC | apply Tl.gdC | apply Tl.gd3C); focus (simp (disch := omega) only [coreA, Int.reduceBEq, base_Id] <;> with_reducible rfl)))
    refine hk _ _ _ _ ?_
    rw [List.drop_eq_nil_of_le (by omega)]
    simpa using S
  | succ n ih =>
    intro i j h ov done hi hj hd S hk
    obtain ⟨j, rfl⟩ : ∃ q, j = q + 1 := ⟨j - 1, by omega⟩
    obtain ⟨x, hx⟩ : ∃ x, g[i]? = some x := ⟨_, List.getElem?_eq_getElem (by omega)⟩
    obtain ⟨b, o, hp, hc1⟩ := Sl1.at_ (S.sl1 (f := u64v) 1 rfl) (t := 50) (k := .i64) hx u50 sz51
    have hc1 := hc1 h (Grow.refl _)
    have e : (i : Int) + 1 = ((i + 1 : Nat) : Int) := by omega
    have hx64 := hgl x (List.mem_of_getElem? hx)
    have ew : IntKind.u64.wrap ((least : Int) + (x : Int)) = (((least + x) % 18446744073709551616 : Nat) : Int) := by rw [wrap_u64]; omega
    have o8 := wrapI (x := (least + x) % 18446744073709551616) (Nat.mod_lt _ (by decide))
    simp only [F52_lrlrrrrrrrr]
    repeat (first | (with_reducible apply Tl.val; focus (simp (disch := omega) only [coreA, Int.reduceBEq, base_Id, hp, hc1, u64v, ew, o8] <;> with_reducible rfl)) | (with_reducible first | refine Tl.brT ?_ | refine Tl.brF ?_ | refine Tl.gd_on ?_ | refine Tl.gd3_on ?_) | ((with_reducible first | apply Tl.brC | apply Tl.gdC | apply Tl.gd3C); focus (simp (disch := omega) only [coreA, Int.reduceBEq, base_Id, hp, hc1, u64v, ew, o8] <;> with_reducible rfl)))
    refine Tl.push S 0 rfl app25 (bs25 _ _) rfl rfl (by rw [i6rows_len]; omega) fun ov' h2 S2 => ?_
    repeat (first | (with_reducible apply Tl.val; focus (simp (disch := omega) only [coreA, Int.reduceBEq, base_Id] <;> with_reducible rfl)) | (with_reducible first | refine Tl.brT ?_ | refine Tl.brF ?_ | refine Tl.gd_on ?_ | refine Tl.gd3_on ?_) | ((with_reducible first | apply Tl.brC | apply Tl.gdC | apply Tl.gd3C); focus (simp (disch := omega) only [coreA, Int.reduceBEq, base_Id] <;> with_reducible rfl)))
    rw [e]
    refine ih (done := done ++ [toI ((least + x) % 18446744073709551616)]) (by omega) (by omega) (by simp [hd]) (by simpa [i6rows, i6v] using S2) fun h3 ov3 y y' S3 => hk h3 ov3 y y' ?_
    rw [dropc hx]
    simpa using S3
theorem f52c {k : Nat} {n0 : Nat} {h0 h : AH} {L : List (Nat × AO)} {O : List OS} {br n : Nat} {rv : Value} {rest : List Nat} (S : Stt Try.prog n0 h0 h (Rb br rv :: L) O) (R : RV (Rb br rv :: L) 0 rv rest) (hn : n ≤ 4096)
    (hl : rest.length ≤ 5000) (hb : ∀ x ∈ rest, x < 256) : Tl (eInv env (k + 6000) (.func 52) #[] #[ptr br, .int .i64 n] h) (ReadQ n0 h0 br L O (packG n rest)) := by
  rw [F52_call]
  unfold F52
  unfold packG
  have e8 : ((8 : Nat) : Int) = 8 := rfl
  have e1 : ((1 : Nat) : Int) = 1 := rfl
  by_cases q1 : rest.length < 8
  · rw [if_pos (by omega)]
    have T := f35n (k := k + 5976) S rfl R (n := 8) (by omega) (by omega) q1
    rw [e8] at T
    refine Tl.bind T ?_
    rintro ⟨r, h1⟩ ⟨er, g1⟩
    simp only at er g1
    subst er
    repeat (first | (with_reducible apply Tl.val; focus (simp (disch := omega) only [coreA, Int.reduceBEq, base_Id] <;> with_reducible rfl)) | (with_reducible first | refine Tl.brT ?_ | refine Tl.brF ?_ | refine Tl.gd_on ?_ | refine Tl.gd3_on ?_) | ((with_reducible first | apply Tl.brC | apply Tl.gdC | apply Tl.gd3C); focus (simp (disch := omega) only [coreA, Int.reduceBEq, base_Id] <;> with_reducible rfl)))
    exact ⟨_, rfl, .inr ⟨rfl, _, 7, by decide, rfl, (S.call g1).drop⟩⟩
  · have T := f35c (k := k + 5976) S rfl R (n := 8) (by omega) (by omega) (by omega) (by omega) hb
    rw [e8] at T
    refine Tl.bind T ?_
    rintro ⟨r, h1⟩ ⟨rv1, er, S1, R1⟩
    simp only at er S1
    subst er
    have S1 : Stt Try.prog n0 h0 h1 (Rb br rv1 :: L) O := S1
    have R1 : RV (Rb br rv1 :: L) 0 rv1 (rest.drop 8) := R1
    have hb1 : ∀ x ∈ rest.drop 8, x < 256 := fun x hx => hb x (List.mem_of_mem_drop hx)
    repeat (first | (with_reducible apply Tl.val; focus (simp (disch := omega) only [coreA, Int.reduceBEq, base_Id] <;> with_reducible rfl)) | (with_reducible first | refine Tl.brT ?_ | refine Tl.brF ?_ | refine Tl.gd_on ?_ | refine Tl.gd3_on ?_) | ((with_reducible first | apply Tl.brC | apply Tl.gdC | apply Tl.gd3C); focus (simp (disch := omega) only [coreA, Int.reduceBEq, base_Id] <;> with_reducible rfl)))
    by_cases q2 : (rest.drop 8).length < 1
    · rw [if_pos (by simp at q2; omega)]
      have T := f35n (k := k + 5976) S1 rfl R1 (n := 1) (by omega) (by omega) q2
      rw [e1] at T
      refine Tl.bind T ?_
      rintro ⟨r, h2⟩ ⟨er, g2⟩
      simp only at er g2
      subst er
      repeat (first | (with_reducible apply Tl.val; focus (simp (disch := omega) only [coreA, Int.reduceBEq, base_Id] <;> with_reducible rfl)) | (with_reducible first | refine Tl.brT ?_ | refine Tl.brF ?_ | refine Tl.gd_on ?_ | refine Tl.gd3_on ?_) | ((with_reducible first | apply Tl.brC | apply Tl.gdC | apply Tl.gd3C); focus (simp (disch := omega) only [coreA, Int.reduceBEq, base_Id] <;> with_reducible rfl)))
      exact ⟨_, rfl, .inr ⟨rfl, _, 7, by decide, rfl, (S1.call g2).drop⟩⟩
    · rw [if_neg (by simp at q2; omega)]
      have T := f35c (k := k + 5976) S1 rfl R1 (n := 1) (by omega) (by omega) (by omega) (by simp; omega) hb1
      rw [e1] at T
      refine Tl.bind T ?_
      rintro ⟨r, h2⟩ ⟨rv2, er, S2, R2⟩
      simp only at er S2
      subst er
      have S2 : Stt Try.prog n0 h0 h2 (Rb br rv2 :: L) O := S2
      have R2 : RV (Rb br rv2 :: L) 0 rv2 (rest.drop 9) := by
        have : (rest.drop 8).drop 1 = rest.drop 9 := by rw [List.drop_drop]
        rw [← this]; exact R2
      have hb2 : ∀ x ∈ rest.drop 9, x < 256 := fun x hx => hb x (List.mem_of_mem_drop hx)
      have left := f68c (k := k + 5998) S2 rfl R2
      repeat (first | (with_reducible apply Tl.val; focus (simp (disch := omega) only [coreA, Int.reduceBEq, base_Id, left] <;> with_reducible rfl)) | (with_reducible first | refine Tl.brT ?_ | refine Tl.brF ?_ | refine Tl.gd_on ?_ | refine Tl.gd3_on ?_) | ((with_reducible first | apply Tl.brC | apply Tl.gdC | apply Tl.gd3C); focus (simp (disch := omega) only [coreA, Int.reduceBEq, base_Id, left] <;> with_reducible rfl)))
      refine Tl.bind (f67c (k := k + 5996) S2 rfl R2 (n := (rest.drop 9).length) (Nat.le_refl _) (by simp; omega)) ?_
      rintro ⟨r, h3⟩ ⟨bv, rv3, er, S3, R3⟩
      simp only at er S3
      subst er
      rw [List.take_length] at S3
      have S3 : Stt Try.prog n0 h0 h3 (Rb br rv3 :: L) ((bv, 1, u8rows (rest.drop 9)) :: O) := S3
      have hw : ofB ((rest.drop 8).take 1) < 256 := by
        have h1 := ofB_lt ((rest.drop 8).take 1) fun x hx => hb1 x (List.mem_of_mem_take hx)
        have : ((rest.drop 8).take 1).length = 1 := by simp; simp at q2; omega
        rw [this] at h1
        simpa using h1
      repeat (first | (with_reducible apply Tl.val; focus (simp (disch := omega) only [coreA, Int.reduceBEq, base_Id] <;> with_reducible rfl)) | (with_reducible first | refine Tl.brT ?_ | refine Tl.brF ?_ | refine Tl.gd_on ?_ | refine Tl.gd3_on ?_) | ((with_reducible first | apply Tl.brC | apply Tl.gdC | apply Tl.gd3C); focus (simp (disch := omega) only [coreA, Int.reduceBEq, base_Id] <;> with_reducible rfl)))
      refine Tl.bind (f69c (k := k + 5909) (S3.sl1 (f := u8v) 0 rfl) hb2 (by simp; omega) (n : Int) (ofB ((rest.drop 8).take 1) : Nat) (fun _ => by simp; omega)) ?_
      rintro ⟨r, h4⟩ ⟨gv, er, g4, X⟩
      simp only at er g4 X
      subst er
      have S4 := (S3.gain g4 X).nil 1
      have hgl : (Pk.getN (rest.drop 9) (n : Int) (ofB ((rest.drop 8).take 1) : Nat)).length ≤ 4096 := by
        unfold Pk.getN
        split
        · rw [digs_len]; simp; omega
        · simp
      have hlen : ∀ h', pLen Try.prog #[50] gv h' = some (.int .i64 (Pk.getN (rest.drop 9) (n : Int) (ofB ((rest.drop 8).take 1) : Nat)).length) := fun h' => Sl1.len (S4.sl1 (f := u64v) 1 rfl) u50
      repeat (first | (with_reducible apply Tl.val; focus (simp (disch := omega) only [coreA, Int.reduceBEq, base_Id, hlen] <;> with_reducible rfl)) | (with_reducible first | refine Tl.brT ?_ | refine Tl.brF ?_ | refine Tl.gd_on ?_ | refine Tl.gd3_on ?_) | ((with_reducible first | apply Tl.brC | apply Tl.gdC | apply Tl.gd3C); focus (simp (disch := omega) only [coreA, Int.reduceBEq, base_Id, hlen] <;> with_reducible rfl)))
      refine f52_loop (by omega) Pk.getN_lt (ofB8 hb) _ (i := 0) (done := []) (Nat.zero_add _) (by omega) rfl S4 fun h5 ov y y' S5 => ?_
      rw [List.drop_zero, List.nil_append] at S5
      by_cases q : Pk.checkE (rest.drop 9) (n : Int) (ofB ((rest.drop 8).take 1) : Nat) = 0
      · rw [if_neg (fun h => h q)]
        exact ⟨_, rfl, .inl ⟨_, rv3, ov, _, rfl, by rw [q], S5⟩⟩
      · rw [if_pos q]
        exact ⟨_, rfl, .inr ⟨rfl, _, _, q, rfl, S5.dropO.dropO.dropO.drop⟩⟩
end Go.Proofs.Ytcidbbkefpeahaa.Sh
