/- The document's answer for the octet's package. -/
import Derived.Test.YtagcejlclcldcaaSzBs
import Derived.Test.YtagcejlclcldcaaSzT2
set_option linter.unusedVariables false
set_option linter.unusedSimpArgs false
set_option maxRecDepth 100000
namespace Go.Proofs.Ytagcejlclcldcaa.Sh
open Go Go.RowKit Go.Proofs.Ev
theorem nilCQ {b o : Nat} : pNilCheck (.pointer (some ⟨b, o, none⟩)) = some (.pointer (some ⟨b, o, none⟩)) := rfl
theorem base_Ra : type_of% (And.intro @ld3 (And.intro @ld5 (And.intro @ld48 (And.intro @ld30 (And.intro @ld84 (And.intro @fa84_0 (And.intro (fun a h => conv_int (a := a) (h := h) u5 u48) (And.intro (fun a h => conv_int (a := a) (h := h) u48 u5) (And.intro (fun a h => conv_int (a := a) (h := h) u3 u70) (And.intro (fun a h => conv_int (a := a) (h := h) u70 u3) (And.intro @nilCQ (And.intro @ex2_0 (@ex2_1))))))))))))) := And.intro @ld3 (And.intro @ld5 (And.intro @ld48 (And.intro @ld30 (And.intro @ld84 (And.intro @fa84_0 (And.intro (fun a h => conv_int (a := a) (h := h) u5 u48) (And.intro (fun a h => conv_int (a := a) (h := h) u48 u5) (And.intro (fun a h => conv_int (a := a) (h := h) u3 u70) (And.intro (fun a h => conv_int (a := a) (h := h) u70 u3) (And.intro @nilCQ (And.intro @ex2_0 (@ex2_1))))))))))))
theorem shlU (c m i : Nat) (hi : m * i < 64) (h : c * 2 ^ (m * i) < 18446744073709551616) : ∀ t x y, pBin Try.prog Go.BinOp.shl t x y (.int .u64 (c : Int)) (.int .u64 ((m : Int) * (i : Int))) = some (.int .u64 ((c * 2 ^ (m * i) : Nat) : Int)) := fun t x y => by
  have e0 : ((m : Int) * (i : Int)) = ((m * i : Nat) : Int) := by simp
  rw [e0, shl_nn (by omega)]
  have e1 : min (((m * i : Nat) : Int)).toNat IntKind.u64.bits = m * i := by
    have : IntKind.u64.bits = 64 := rfl
    rw [this]; omega
  have e2 : (c : Int) * 2 ^ (m * i) = ((c * 2 ^ (m * i) : Nat) : Int) := by simp
  rw [e1, e2, wrap_u64, Int.emod_eq_of_lt (by omega) (by omega)]
/-! ### Put, of any length and of eight bytes -/
theorem f42_loop {β : Type} {k : Nat} {Q : β → Prop} {n0 : Nat} {h0 : AH} {L : List (Nat × AO)} {O : List OS} {ke0 : Value → Value → Value → AH → Option β} (n : Nat) :
    ∀ {j x : Nat} {h : AH} {v : Value} {l : List Nat}, (pvarN x).length ≤ n → n ≤ j → x < 18446744073709551616 → l.length + (pvarN x).length ≤ 2 ^ 30 → Stt Try.prog n0 h0 h L ((v, 1, u8rows l) :: O) →
      (∀ h' v' (y : Nat) l' b, y < 128 → l' ++ [y] = l ++ pvarN x → Stt Try.prog n0 h0 h' L ((v', 1, u8rows l') :: O) → Tl (ke0 v' (.int .u64 (y : Int)) b h') Q) →
      Tl (F42_llr (eInv env k) k j v (.int .u64 (x : Int)) h ke0) Q := by
  induction n with
  | zero =>
    intro j x h v l hn hj hx hl S hk
    have : 1 ≤ (pvarN x).length := by
      by_cases q : x < 128
      · rw [pvarN_lt q]; simp
      · rw [pvarN_ge q]; simp
    omega
  | succ n ih =>
    intro j x h v l hn hj hx hl S hk
    obtain ⟨j, rfl⟩ : ∃ q, j = q + 1 := ⟨j - 1, by omega⟩
    simp only [F42_llr]
    by_cases q : x < 128
    · repeat (first | (with_reducible apply Tl.val; focus (simp (disch := omega) only [coreA, Int.reduceBEq, base_Ra] <;> with_reducible rfl)) | (with_reducible first | refine Tl.brT ?_ | refine Tl.brF ?_ | refine Tl.gd_on ?_ | refine Tl.gd3_on ?_) | ((with_reducible first | apply Tl.brC | apply Tl.gdC | apply Tl.gd3C); focus (simp (disch := omega) only [coreA, Int.reduceBEq, base_Ra] <;> with_reducible rfl)))
      exact hk _ _ x l _ q (by rw [pvarN_lt q]) S
    · have w8 : IntKind.u8.wrap ((x : Nat) : Int) = ((x % 256 : Nat) : Int) := by rw [wrap_u8]; omega
      have o8 := or_128 (x % 256) (by omega)
      have e1 : x % 256 % 128 = x % 128 := by omega
      rw [e1] at o8
      have sh : ∀ t a b, pBin Try.prog Go.BinOp.shr t a b (.int .u64 (x : Int)) (.int .u64 7) = some (.int .u64 ((x / 128 : Nat) : Int)) := fun t a b => by
        rw [shr_nn (by decide)]
        have e : (x : Int).fdiv (2 ^ (min (7 : Int).toNat IntKind.u64.bits)) = ((x / 128 : Nat) : Int) := by
          have h2 : min (7 : Int).toNat IntKind.u64.bits = 7 := by decide
          rw [h2, Int.fdiv_eq_ediv_of_nonneg _ (by decide)]
          have : (2 : Int) ^ 7 = 128 := by decide
          rw [this]; omega
        rw [e]
      rw [pvarN_ge q] at hn hl hk
      simp only [List.length_cons] at hn hl
      have or8' : ∀ t a b, pBin Try.prog Go.BinOp.or t a b (.int .u8 ((x % 256 : Nat) : Int)) (.int .u8 128) = some (.int .u8 ((x % 128 + 128 : Nat) : Int)) := fun t a b => by
        rw [bin_or]; exact congrArg some (congrArg _ o8)
      repeat (first | (with_reducible apply Tl.val; focus (simp (disch := omega) only [coreA, Int.reduceBEq, base_Ra, w8, or8'] <;> with_reducible rfl)) | (with_reducible first | refine Tl.brT ?_ | refine Tl.brF ?_ | refine Tl.gd_on ?_ | refine Tl.gd3_on ?_) | ((with_reducible first | apply Tl.brC | apply Tl.gdC | apply Tl.gd3C); focus (simp (disch := omega) only [coreA, Int.reduceBEq, base_Ra, w8, or8'] <;> with_reducible rfl)))
      refine Tl.push S 0 rfl app30 (bs30 _ _) rfl rfl (by rw [u8rows_len]; omega) fun v' h' S' => ?_
      repeat (first | (with_reducible apply Tl.val; focus (simp (disch := omega) only [coreA, Int.reduceBEq, base_Ra, sh] <;> with_reducible rfl)) | (with_reducible first | refine Tl.brT ?_ | refine Tl.brF ?_ | refine Tl.gd_on ?_ | refine Tl.gd3_on ?_) | ((with_reducible first | apply Tl.brC | apply Tl.gdC | apply Tl.gd3C); focus (simp (disch := omega) only [coreA, Int.reduceBEq, base_Ra, sh] <;> with_reducible rfl)))
      refine ih (l := l ++ [x % 128 + 128]) (by omega) (by omega) (by omega) (by simp; omega) (by simpa [u8rows, u8v] using S') fun h'' v'' y l'' b hy hl'' S'' => hk h'' v'' y l'' b hy (by rw [hl'']; simp) S''
theorem f42c {k : Nat} {n0 : Nat} {h0 h : AH} {L : List (Nat × AO)} {O : List OS} {v : Value} {l : List Nat} (x : Nat) (hx : x < 18446744073709551616) (hl : l.length ≤ 2 ^ 29) (S : Stt Try.prog n0 h0 h L ((v, 1, u8rows l) :: O)) :
    Tl (eInv env (k + 20) (.func 42) #[] #[v, .int .u64 (x : Int)] h) fun r => Stt Try.prog n0 h0 r.2 L ((r.1, 1, u8rows (l ++ pvarN x)) :: O) := by
  rw [F42_call]
  unfold F42
  have h10 := pvarN_le10 hx
  refine f42_loop (k := k + 19) 10 h10 (by omega) hx (by omega) S fun h' v' y l' b hy he S' => ?_
  have w8 : IntKind.u8.wrap ((y : Nat) : Int) = ((y : Nat) : Int) := by rw [wrap_u8]; omega
  have hle : l'.length + 1 = l.length + (pvarN x).length := by
    have := congrArg List.length he
    simpa using this
  repeat (first | (with_reducible apply Tl.val; focus (simp (disch := omega) only [coreA, Int.reduceBEq, base_Ra, w8] <;> with_reducible rfl)) | (with_reducible first | refine Tl.brT ?_ | refine Tl.brF ?_ | refine Tl.gd_on ?_ | refine Tl.gd3_on ?_) | ((with_reducible first | apply Tl.brC | apply Tl.gdC | apply Tl.gd3C); focus (simp (disch := omega) only [coreA, Int.reduceBEq, base_Ra, w8] <;> with_reducible rfl)))
  refine Tl.push S' 0 rfl app30 (bs30 _ _) rfl rfl (by rw [u8rows_len]; omega) fun v'' h'' S'' => ?_
  repeat (first | (with_reducible apply Tl.val; focus (simp (disch := omega) only [coreA, Int.reduceBEq, base_Ra] <;> with_reducible rfl)) | (with_reducible first | refine Tl.brT ?_ | refine Tl.brF ?_ | refine Tl.gd_on ?_ | refine Tl.gd3_on ?_) | ((with_reducible first | apply Tl.brC | apply Tl.gdC | apply Tl.gd3C); focus (simp (disch := omega) only [coreA, Int.reduceBEq, base_Ra] <;> with_reducible rfl)))
  refine ⟨_, rfl, ?_⟩
  rw [← he]
  simpa [u8rows, u8v] using S''

/-! ### A reader -/
theorem f72_loop {β : Type} {k : Nat} {Q : β → Prop} {h : AH} {v : Value} {l : List Nat} (A : Bytes h v l) (hl : l.length ≤ 8) (hb : ∀ x ∈ l, x < 256) {ke0 : Value → Value → Value → Value → AH → Option β} (n : Nat) :
    ∀ {i j : Nat}, i + n = l.length → n < j → (∀ y y', Tl (ke0 v (.int .u64 (ofB l : Int)) y y' h) Q) → Tl (F72_lrlrrr (eInv env k) k j v (.int .u64 (ofB (l.take i) : Int)) (.int .i64 i) h ke0) Q := by
  have hv : ∀ h', pLen Try.prog #[30] v h' = some (.int .i64 l.length) := fun h' => A.len
  induction n with
  | zero =>
    intro i j hi hj hk
    obtain ⟨j, rfl⟩ : ∃ q, j = q + 1 := ⟨j - 1, by omega⟩
    simp only [F72_lrlrrr]
    repeat (first | (with_reducible apply Tl.val; focus (simp (disch := omega) only [coreA, Int.reduceBEq, base_Ra, hv] <;> with_reducible rfl)) | (with_reducible first | refine Tl.brT ?_ | refine Tl.brF ?_ | refine Tl.gd_on ?_ | refine Tl.gd3_on ?_) | ((with_reducible first | apply Tl.brC | apply Tl.gdC | apply Tl.gd3C); focus (simp (disch := omega) only [coreA, Int.reduceBEq, base_Ra, hv] <;> with_reducible rfl)))
    rw [List.take_of_length_le (by omega)]
    exact hk _ _
  | succ n ih =>
    intro i j hi hj hk
    obtain ⟨j, rfl⟩ : ∃ q, j = q + 1 := ⟨j - 1, by omega⟩
    have hlt : i < l.length := by omega
    obtain ⟨c, hc⟩ : ∃ c, l[i]? = some c := ⟨_, List.getElem?_eq_getElem hlt⟩
    obtain ⟨b, o, hp, hc1⟩ := A.at_ hc
    have hc1 := hc1 h (Grow.refl _)
    have hc256 := hb c (List.mem_of_getElem? hc)
    have e : (i : Int) + 1 = ((i + 1 : Nat) : Int) := by omega
    have p64 : 2 ^ (8 * i) ≤ 2 ^ 56 := Nat.pow_le_pow_right (by decide) (by omega)
    have h56 : (2 : Nat) ^ 56 = 72057594037927936 := by decide
    have hcs : c * 2 ^ (8 * i) ≤ 255 * 2 ^ (8 * i) := Nat.mul_le_mul_right _ (by omega)
    have ha := ofB_lt (l.take i) fun x hx => hb x (List.mem_of_mem_take hx)
    have e256 : (256 : Nat) ^ (l.take i).length = 2 ^ (8 * i) := by
      rw [List.length_take, Nat.min_eq_left (by omega), Nat.pow_mul]
    rw [e256] at ha
    have sh := shlU c 8 i (by omega) (by omega)
    have o1 := or64' (ofB (l.take i)) (c * 2 ^ (8 * i)) (by omega) (by omega)
    rw [or_disj (ofB (l.take i)) c (8 * i) ha] at o1
    have e8 : ((8 : Nat) : Int) = 8 := rfl
    rw [e8] at sh
    have hs : ofB (l.take (i + 1)) = ofB (l.take i) + c * 2 ^ (8 * i) := by
      have ht : l.take (i + 1) = l.take i ++ [c] := by rw [List.take_add_one, hc]; rfl
      have := byN_snoc (l.take i) c
      rw [e256] at this
      rw [ht]; exact this
    rw [← hs] at o1
    simp only [F72_lrlrrr]
    repeat (first | (with_reducible apply Tl.val; focus (simp (disch := omega) only [coreA, Int.reduceBEq, base_Ra, hv, hp, hc1, sh, o1] <;> with_reducible rfl)) | (with_reducible first | refine Tl.brT ?_ | refine Tl.brF ?_ | refine Tl.gd_on ?_ | refine Tl.gd3_on ?_) | ((with_reducible first | apply Tl.brC | apply Tl.gdC | apply Tl.gd3C); focus (simp (disch := omega) only [coreA, Int.reduceBEq, base_Ra, hv, hp, hc1, sh, o1] <;> with_reducible rfl)))
    rw [e]
    exact ih (by omega) (by omega) hk
theorem f72c {k : Nat} {h : AH} {v : Value} {l : List Nat} (A : Bytes h v l) (hl : l.length ≤ 8) (hb : ∀ x ∈ l, x < 256) : eInv env (k + 21) (.func 72) #[] #[v] h = some (.int .u64 (ofB l : Int), h) := by
  have T : Tl (F72 (eInv env (k + 20)) (k + 20) v h) fun r => r = (.int .u64 (ofB l : Int), h) := by
    have hv : ∀ h', pLen Try.prog #[30] v h' = some (.int .i64 l.length) := fun h' => A.len
    unfold F72
    repeat (first | (with_reducible apply Tl.val; focus (simp (disch := omega) only [coreA, Int.reduceBEq, base_Ra, hv] <;> with_reducible rfl)) | (with_reducible first | refine Tl.brT ?_ | refine Tl.brF ?_ | refine Tl.gd_on ?_ | refine Tl.gd3_on ?_) | ((with_reducible first | apply Tl.brC | apply Tl.gdC | apply Tl.gd3C); focus (simp (disch := omega) only [coreA, Int.reduceBEq, base_Ra, hv] <;> with_reducible rfl)))
    exact f72_loop (k := k + 20) A hl hb l.length (i := 0) (by omega) (by omega) fun y y' => ⟨_, rfl, rfl⟩
  obtain ⟨r, h1, h2⟩ := T
  rw [F72_call, h1, h2]
section
variable {n0 : Nat} {h0 h : AH} {L : List (Nat × AO)} {O : List OS} {i br : Nat} {rv : Value} {rest : List Nat}
def Qb (br : Nat) (rv : Value) : Nat × AO := (br, .cells [rv] 84 true)
theorem bdQ (v : Value) (hv : kn v = true) (h1 : oneCell v = true) : pBuild Try.prog 84 #[(0, v)] = some (.agg #[v]) := by
  cases v <;> first | (cases h1; done) | (cases hv; done) | kernel_rfl
theorem f46c {k : Nat} {v : Value} {l : List Nat} (S : Stt Try.prog n0 h0 h L O) (B : Bytes h v l) (hl : l.length ≤ 2 ^ 30) :
    Tl (eInv env (k + 2) (.func 46) #[] #[v] h) fun r => ∃ br rv L', r.1 = ptr br ∧ Stt Try.prog n0 h0 r.2 (Qb br rv :: (L ++ L')) O ∧ RV (Qb br rv :: (L ++ L')) 0 rv l ∧ Grow h r.2 := by
  rw [F46_call]
  unfold F46
  refine Tl.copyB S B hl fun v' h1 S1 g1 _ => ?_
  have V := slV_cells (S1.slV 0 rfl)
  have bd := bdQ v' V.2.2.2 V.2.2.1
  repeat (first | (with_reducible apply Tl.val; focus (simp (disch := omega) only [coreA, Int.reduceBEq, base_Ra, bd] <;> with_reducible rfl)) | (with_reducible first | refine Tl.brT ?_ | refine Tl.brF ?_ | refine Tl.gd_on ?_ | refine Tl.gd3_on ?_) | ((with_reducible first | apply Tl.brC | apply Tl.gdC | apply Tl.gd3C); focus (simp (disch := omega) only [coreA, Int.reduceBEq, base_Ra, bd] <;> with_reducible rfl)))
  rcases S1.expose with ⟨rfl, q, S2⟩ | ⟨b, cs, e, rfl, hc, hz, S2⟩
  · have : l = [] := by simpa [u8rows] using q
    subst this
    refine Tl.box' S2 rfl (by rw [sz84]; rfl) fun br h2 S3 g3 => ?_
    have S3 : Stt Try.prog n0 h0 h2 (Qb br (.slice none 0 0) :: L) O := S3
    exact ⟨_, rfl, br, .slice none 0 0, [], rfl, by simpa using S3, .inl ⟨rfl, rfl⟩, g1.trans g3⟩
  · refine Tl.box' S2 rfl (by rw [sz84]; rfl) fun br h2 S3 g3 => ?_
    have S3 : Stt Try.prog n0 h0 h2 (Qb br (.slice (some ⟨b, 0, none⟩) (u8rows l).length (u8rows l).length) :: (b, .cells cs e true) :: L) O := S3
    rw [u8rows_len] at S3
    refine ⟨_, rfl, br, _, [(b, .cells cs e true)], rfl, S3.perm ?_, .inr ⟨L.length + 1, b, 0, cs, e, by omega, ?_, hz, rfl, fun hne => ?_⟩, g1.trans g3⟩
    · refine List.Perm.cons _ ?_
      exact (List.perm_append_singleton _ _).symm
    · simp
    · have := hc (by simpa [u8rows] using hne)
      rw [u8rows_len, u8rows_flat] at this
      simpa using this
theorem f47n {k : Nat} (S : Stt Try.prog n0 h0 h L O) (hi : L[i]? = some (Qb br rv)) (R : RV L i rv rest) {n : Nat} (h1 : 1 ≤ n) (h8 : n ≤ 8) (hn : rest.length < n) :
    eInv env (k + 23) (.func 47) #[] #[ptr br, .int .i64 n] h = some (.tuple #[.int .u64 0, .int .i64 7], h) := by
  have T : Tl (F47 (eInv env (k + 22)) (k + 22) (ptr br) (.int .i64 n) h) fun r => r = (.tuple #[.int .u64 0, .int .i64 7], h) := by
    have c0 := S.cell i (o := 0) hi rfl
    have ll : ∀ h', pLen Try.prog #[30] rv h' = some (.int .i64 rest.length) := fun h' => (R.bytes S).len
    unfold F47 ptr
    repeat (first | (with_reducible apply Tl.val; focus (simp (disch := omega) only [coreA, Int.reduceBEq, base_Ra, c0, ll] <;> with_reducible rfl)) | (with_reducible first | refine Tl.brT ?_ | refine Tl.brF ?_ | refine Tl.gd_on ?_ | refine Tl.gd3_on ?_) | ((with_reducible first | apply Tl.brC | apply Tl.gdC | apply Tl.gd3C); focus (simp (disch := omega) only [coreA, Int.reduceBEq, base_Ra, c0, ll] <;> with_reducible rfl)))
    exact ⟨_, rfl, rfl⟩
  obtain ⟨r, h1, h2⟩ := T
  rw [F47_call, h1, h2]
theorem f47c {k : Nat} (S : Stt Try.prog n0 h0 h L O) (hi : L[i]? = some (Qb br rv)) (R : RV L i rv rest) {n : Nat} (h1 : 1 ≤ n) (h8 : n ≤ 8) (hn : n ≤ rest.length) (hl : rest.length ≤ 2 ^ 30) (hb : ∀ x ∈ rest, x < 256) :
    Tl (eInv env (k + 23) (.func 47) #[] #[ptr br, .int .i64 n] h) fun r => ∃ rv', r.1 = .tuple #[.int .u64 (ofB (rest.take n) : Int), .int .i64 0] ∧ Stt Try.prog n0 h0 r.2 (L.set i (Qb br rv')) O ∧ RV (L.set i (Qb br rv')) i rv' (rest.drop n) := by
  rw [F47_call]
  unfold F47 ptr
  have c0 := S.cell i (o := 0) hi rfl
  have ll : ∀ h', pLen Try.prog #[30] rv h' = some (.int .i64 rest.length) := fun h' => (R.bytes S).len
  obtain ⟨tv, ht, Bt⟩ := (R.bytes S).takeS hn
  obtain ⟨rv', d1, d2, d3, d4, d5⟩ := R.drop S hn
  have of := f72c (k := k + 1) Bt (by simp; omega) (fun x hx => hb x (List.mem_of_mem_take hx))
  repeat (first | (with_reducible apply Tl.val; focus (simp (disch := omega) only [coreA, Int.reduceBEq, base_Ra, c0, ll, ht, d1, of] <;> with_reducible rfl)) | (with_reducible first | refine Tl.brT ?_ | refine Tl.brF ?_ | refine Tl.gd_on ?_ | refine Tl.gd3_on ?_) | ((with_reducible first | apply Tl.brC | apply Tl.gdC | apply Tl.gd3C); focus (simp (disch := omega) only [coreA, Int.reduceBEq, base_Ra, c0, ll, ht, d1, of] <;> with_reducible rfl)))
  refine Tl.store' S i hi sz30 d5 (by rw [d4]; simp [d3]) (of_decide_eq_true rfl) fun h' S' _ => ?_
  rw [d4] at S'
  exact ⟨_, rfl, rv', rfl, S', d2.set _⟩
theorem and127 {t : TypeId} {x y : Operand} (c : Nat) (hc : c < 256) : pBin Try.prog .and t x y (.int .u8 (c : Int)) (.int .u8 127) = some (.int .u8 ((c % 128 : Nat) : Int)) := by
  have h1 : pBin Try.prog .and t x y (.int .u8 (c : Int)) (.int .u8 127) = some (.int .u8 (IntKind.u8.wrap (BitVec.ofInt 8 (c : Int) &&& BitVec.ofInt 8 127).toNat)) := and8
  have h2 : ∀ c : Fin 256, IntKind.u8.wrap (BitVec.ofInt 8 (c.val : Int) &&& BitVec.ofInt 8 127).toNat = ((c.val % 128 : Nat) : Int) := by decide +kernel
  rw [h1, h2 ⟨c, hc⟩]
theorem f48_loop {β : Type} {k : Nat} {Q : β → Prop} (S : Stt Try.prog n0 h0 h L O) (hi : L[i]? = some (Qb br rv)) (R : RV L i rv rest) (hl : rest.length ≤ 2 ^ 40) (hb : ∀ x ∈ rest, x < 256)
    {ke0 : Value → Value → Value → Value → AH → Option β} {kr : Value → Value → AH → Option β} (n : Nat) :
    ∀ {q j acc : Nat}, q + n = 10 → n < j → acc < 2 ^ (7 * q) → q ≤ rest.length →
      (∀ v rest' rv' h', dec q acc (rest.drop q) = some (v, rest') → Stt Try.prog n0 h0 h' (L.set i (Qb br rv')) O → RV (L.set i (Qb br rv')) i rv' rest' → Tl (kr (.int .u64 (v : Int)) (.int .i64 0) h') Q) →
      (dec q acc (rest.drop q) = none → (∀ e, e ≠ 0 → Tl (kr (.int .u64 0) (.int .i64 e) h) Q) ∧ ∀ y4 y5 y8, Tl (ke0 (ptr br) y4 y5 y8 h) Q) →
      Tl (F48_lrlrr (eInv env k) k j (ptr br) (.int .u64 (acc : Int)) (.int .i64 (q : Int)) h ke0 kr) Q := by
  have A := R.bytes S
  have c0 := S.cell i (o := 0) hi rfl
  have ll : ∀ h', pLen Try.prog #[30] rv h' = some (.int .i64 rest.length) := fun h' => A.len
  induction n with
  | zero =>
    intro q j acc hq hj ha hql hs hn
    obtain ⟨j, rfl⟩ : ∃ z, j = z + 1 := ⟨j - 1, by omega⟩
    simp only [F48_lrlrr]
    repeat (first | (with_reducible apply Tl.val; focus (simp (disch := omega) only [coreA, Int.reduceBEq, base_Ra] <;> with_reducible rfl)) | (with_reducible first | refine Tl.brT ?_ | refine Tl.brF ?_ | refine Tl.gd_on ?_ | refine Tl.gd3_on ?_) | ((with_reducible first | apply Tl.brC | apply Tl.gdC | apply Tl.gd3C); focus (simp (disch := omega) only [coreA, Int.reduceBEq, base_Ra] <;> with_reducible rfl)))
    have hd : dec q acc (rest.drop q) = none := by
      cases rest.drop q with
      | nil => rfl
      | cons c r => rw [dec, if_pos (by omega)]
    exact (hn hd).2 _ _ _
  | succ n ih =>
    intro q j acc hq hj ha hql hs hn
    obtain ⟨j, rfl⟩ : ∃ z, j = z + 1 := ⟨j - 1, by omega⟩
    simp only [F48_lrlrr]
    unfold ptr at hn ⊢
    by_cases hlt : q < rest.length
    · obtain ⟨c, hc⟩ : ∃ c, rest[q]? = some c := ⟨_, List.getElem?_eq_getElem hlt⟩
      have hc256 := hb c (List.mem_of_getElem? hc)
      have hd : rest.drop q = c :: rest.drop (q + 1) := by
        rw [List.drop_eq_getElem_cons hlt]
        rw [List.getElem?_eq_getElem hlt] at hc
        cases hc; rfl
      rw [hd] at hs hn
      obtain ⟨b', o', hx, h2⟩ := A.at_ hc
      have h2 := h2 h (Grow.refl _)
      have e : (q : Int) + 1 = ((q + 1 : Nat) : Int) := by omega
      have an := fun (x y : Operand) => and127 (t := 5) (x := x) (y := y) c hc256
      have i10 : ¬ q = 10 := by omega
      by_cases bad : q = 9 ∧ c % 128 > 1
      · repeat (first | (with_reducible apply Tl.val; focus (simp (disch := omega) only [coreA, Int.reduceBEq, base_Ra, c0, ll, hx, h2, an] <;> with_reducible rfl)) | (with_reducible first | refine Tl.brT ?_ | refine Tl.brF ?_ | refine Tl.gd_on ?_ | refine Tl.gd3_on ?_) | ((with_reducible first | apply Tl.brC | apply Tl.gdC | apply Tl.gd3C); focus (simp (disch := omega) only [coreA, Int.reduceBEq, base_Ra, c0, ll, hx, h2, an] <;> with_reducible rfl)))
        exact (hn (by rw [dec, if_neg i10, if_pos bad])).1 4 (by decide)
      have hp7 := pow7 (i := q) (by omega)
      have hsum : c % 128 * 2 ^ (7 * q) < 18446744073709551616 := by
        by_cases i9 : q = 9
        · have : c % 128 ≤ 1 := by omega
          have : c % 128 * 2 ^ (7 * q) ≤ 1 * 2 ^ (7 * q) := Nat.mul_le_mul_right _ this
          omega
        · have h8 : 2 ^ (7 * q) ≤ 2 ^ 56 := Nat.pow_le_pow_right (by decide) (by omega)
          have h56 : (2 : Nat) ^ 56 = 72057594037927936 := by decide
          have : c % 128 * 2 ^ (7 * q) ≤ 127 * 2 ^ (7 * q) := Nat.mul_le_mul_right _ (by omega)
          omega
      have sh := shlU (c % 128) 7 q (by omega) hsum
      have e7 : ((7 : Nat) : Int) = 7 := rfl
      rw [e7] at sh
      have o1 := or64' acc (c % 128 * 2 ^ (7 * q)) (by omega) hsum
      rw [or_disj acc (c % 128) (7 * q) ha] at o1
      have hgo : q = 9 → c % 128 ≤ 1 := fun h1 => Decidable.byContradiction fun h2 => bad ⟨h1, by omega⟩
      by_cases more : c ≥ 128
      · have hdec : dec q acc (c :: rest.drop (q + 1)) = dec (q + 1) (acc + c % 128 * 2 ^ (7 * q)) (rest.drop (q + 1)) := by
          rw [dec, if_neg i10, if_neg bad, if_pos more]
        rw [hdec] at hs hn
        have hacc : acc + c % 128 * 2 ^ (7 * q) < 2 ^ (7 * (q + 1)) := by
          have : 2 ^ (7 * (q + 1)) = 128 * 2 ^ (7 * q) := by rw [Nat.mul_succ, Nat.pow_add, Nat.mul_comm]
          have : c % 128 * 2 ^ (7 * q) ≤ 127 * 2 ^ (7 * q) := Nat.mul_le_mul_right _ (by omega)
          omega
        have go := ih (q := q + 1) (j := j) (acc := acc + c % 128 * 2 ^ (7 * q)) (by omega) (by omega) hacc (by omega) hs hn
        unfold ptr at go
        by_cases i9 : q = 9
        · have := hgo i9
          repeat (first | (with_reducible apply Tl.val; focus (simp (disch := omega) only [coreA, Int.reduceBEq, base_Ra, c0, ll, hx, h2, an, sh, o1] <;> with_reducible rfl)) | (with_reducible first | refine Tl.brT ?_ | refine Tl.brF ?_ | refine Tl.gd_on ?_ | refine Tl.gd3_on ?_) | ((with_reducible first | apply Tl.brC | apply Tl.gdC | apply Tl.gd3C); focus (simp (disch := omega) only [coreA, Int.reduceBEq, base_Ra, c0, ll, hx, h2, an, sh, o1] <;> with_reducible rfl)))
          rw [e]
          exact go
        · repeat (first | (with_reducible apply Tl.val; focus (simp (disch := omega) only [coreA, Int.reduceBEq, base_Ra, c0, ll, hx, h2, an, sh, o1] <;> with_reducible rfl)) | (with_reducible first | refine Tl.brT ?_ | refine Tl.brF ?_ | refine Tl.gd_on ?_ | refine Tl.gd3_on ?_) | ((with_reducible first | apply Tl.brC | apply Tl.gdC | apply Tl.gd3C); focus (simp (disch := omega) only [coreA, Int.reduceBEq, base_Ra, c0, ll, hx, h2, an, sh, o1] <;> with_reducible rfl)))
          rw [e]
          exact go
      · obtain ⟨rv', d1, d2, d3, d4, d5⟩ := R.drop S (n := q + 1) (by omega)
        rw [← e] at d1
        by_cases zero : c % 128 = 0 ∧ q > 0
        · have fin := (hn (by rw [dec, if_neg i10, if_neg bad, if_neg more, if_pos zero])).1 4 (by decide)
          by_cases i9 : q = 9
          · have := hgo i9
            repeat (first | (with_reducible apply Tl.val; focus (simp (disch := omega) only [coreA, Int.reduceBEq, base_Ra, c0, ll, hx, h2, an, sh, o1] <;> with_reducible rfl)) | (with_reducible first | refine Tl.brT ?_ | refine Tl.brF ?_ | refine Tl.gd_on ?_ | refine Tl.gd3_on ?_) | ((with_reducible first | apply Tl.brC | apply Tl.gdC | apply Tl.gd3C); focus (simp (disch := omega) only [coreA, Int.reduceBEq, base_Ra, c0, ll, hx, h2, an, sh, o1] <;> with_reducible rfl)))
            exact fin
          · repeat (first | (with_reducible apply Tl.val; focus (simp (disch := omega) only [coreA, Int.reduceBEq, base_Ra, c0, ll, hx, h2, an, sh, o1] <;> with_reducible rfl)) | (with_reducible first | refine Tl.brT ?_ | refine Tl.brF ?_ | refine Tl.gd_on ?_ | refine Tl.gd3_on ?_) | ((with_reducible first | apply Tl.brC | apply Tl.gdC | apply Tl.gd3C); focus (simp (disch := omega) only [coreA, Int.reduceBEq, base_Ra, c0, ll, hx, h2, an, sh, o1] <;> with_reducible rfl)))
            exact fin
        · have fin := fun rv' h' => hs (acc + c % 128 * 2 ^ (7 * q)) (rest.drop (q + 1)) rv' h' (by rw [dec, if_neg i10, if_neg bad, if_neg more, if_neg zero])
          by_cases i9 : q = 9
          · have := hgo i9
            have z0 : ¬ c % 128 = 0 := fun z0 => zero ⟨z0, by omega⟩
            repeat (first | (with_reducible apply Tl.val; focus (simp (disch := omega) only [coreA, Int.reduceBEq, base_Ra, c0, ll, hx, h2, an, sh, o1, d1] <;> with_reducible rfl)) | (with_reducible first | refine Tl.brT ?_ | refine Tl.brF ?_ | refine Tl.gd_on ?_ | refine Tl.gd3_on ?_) | ((with_reducible first | apply Tl.brC | apply Tl.gdC | apply Tl.gd3C); focus (simp (disch := omega) only [coreA, Int.reduceBEq, base_Ra, c0, ll, hx, h2, an, sh, o1, d1] <;> with_reducible rfl)))
            refine Tl.store' S i hi sz30 d5 (by rw [d4]; simp [d3]) (of_decide_eq_true rfl) fun h' S' _ => ?_
            rw [d4] at S'
            repeat (first | (with_reducible apply Tl.val; focus (simp (disch := omega) only [coreA, Int.reduceBEq, base_Ra] <;> with_reducible rfl)) | (with_reducible first | refine Tl.brT ?_ | refine Tl.brF ?_ | refine Tl.gd_on ?_ | refine Tl.gd3_on ?_) | ((with_reducible first | apply Tl.brC | apply Tl.gdC | apply Tl.gd3C); focus (simp (disch := omega) only [coreA, Int.reduceBEq, base_Ra] <;> with_reducible rfl)))
            exact fin rv' h' S' (d2.set _)
          · by_cases z0 : c % 128 = 0
            · have q0 : q = 0 := by omega
              repeat (first | (with_reducible apply Tl.val; focus (simp (disch := omega) only [coreA, Int.reduceBEq, base_Ra, c0, ll, hx, h2, an, sh, o1, d1] <;> with_reducible rfl)) | (with_reducible first | refine Tl.brT ?_ | refine Tl.brF ?_ | refine Tl.gd_on ?_ | refine Tl.gd3_on ?_) | ((with_reducible first | apply Tl.brC | apply Tl.gdC | apply Tl.gd3C); focus (simp (disch := omega) only [coreA, Int.reduceBEq, base_Ra, c0, ll, hx, h2, an, sh, o1, d1] <;> with_reducible rfl)))
              refine Tl.store' S i hi sz30 d5 (by rw [d4]; simp [d3]) (of_decide_eq_true rfl) fun h' S' _ => ?_
              rw [d4] at S'
              repeat (first | (with_reducible apply Tl.val; focus (simp (disch := omega) only [coreA, Int.reduceBEq, base_Ra] <;> with_reducible rfl)) | (with_reducible first | refine Tl.brT ?_ | refine Tl.brF ?_ | refine Tl.gd_on ?_ | refine Tl.gd3_on ?_) | ((with_reducible first | apply Tl.brC | apply Tl.gdC | apply Tl.gd3C); focus (simp (disch := omega) only [coreA, Int.reduceBEq, base_Ra] <;> with_reducible rfl)))
              exact fin rv' h' S' (d2.set _)
            · repeat (first | (with_reducible apply Tl.val; focus (simp (disch := omega) only [coreA, Int.reduceBEq, base_Ra, c0, ll, hx, h2, an, sh, o1, d1] <;> with_reducible rfl)) | (with_reducible first | refine Tl.brT ?_ | refine Tl.brF ?_ | refine Tl.gd_on ?_ | refine Tl.gd3_on ?_) | ((with_reducible first | apply Tl.brC | apply Tl.gdC | apply Tl.gd3C); focus (simp (disch := omega) only [coreA, Int.reduceBEq, base_Ra, c0, ll, hx, h2, an, sh, o1, d1] <;> with_reducible rfl)))
              refine Tl.store' S i hi sz30 d5 (by rw [d4]; simp [d3]) (of_decide_eq_true rfl) fun h' S' _ => ?_
              rw [d4] at S'
              repeat (first | (with_reducible apply Tl.val; focus (simp (disch := omega) only [coreA, Int.reduceBEq, base_Ra] <;> with_reducible rfl)) | (with_reducible first | refine Tl.brT ?_ | refine Tl.brF ?_ | refine Tl.gd_on ?_ | refine Tl.gd3_on ?_) | ((with_reducible first | apply Tl.brC | apply Tl.gdC | apply Tl.gd3C); focus (simp (disch := omega) only [coreA, Int.reduceBEq, base_Ra] <;> with_reducible rfl)))
              exact fin rv' h' S' (d2.set _)
    · repeat (first | (with_reducible apply Tl.val; focus (simp (disch := omega) only [coreA, Int.reduceBEq, base_Ra, c0, ll] <;> with_reducible rfl)) | (with_reducible first | refine Tl.brT ?_ | refine Tl.brF ?_ | refine Tl.gd_on ?_ | refine Tl.gd3_on ?_) | ((with_reducible first | apply Tl.brC | apply Tl.gdC | apply Tl.gd3C); focus (simp (disch := omega) only [coreA, Int.reduceBEq, base_Ra, c0, ll] <;> with_reducible rfl)))
      refine (hn ?_).1 7 (by decide)
      rw [List.drop_eq_nil_of_le (by omega)]
      rfl
theorem f48c {k : Nat} (S : Stt Try.prog n0 h0 h L O) (hi : L[i]? = some (Qb br rv)) (R : RV L i rv rest) (hl : rest.length ≤ 2 ^ 40) (hb : ∀ x ∈ rest, x < 256) :
    Tl (eInv env (k + 20) (.func 48) #[] #[ptr br] h) fun r =>
      (∃ v rest' rv', dec 0 0 rest = some (v, rest') ∧ r.1 = .tuple #[.int .u64 (v : Int), .int .i64 0] ∧ Stt Try.prog n0 h0 r.2 (L.set i (Qb br rv')) O ∧ RV (L.set i (Qb br rv')) i rv' rest') ∨
      (dec 0 0 rest = none ∧ ∃ e, e ≠ 0 ∧ r = (.tuple #[.int .u64 0, .int .i64 e], h)) := by
  rw [F48_call]
  unfold F48
  refine f48_loop S hi R hl hb 10 (q := 0) (acc := 0) (by omega) (by omega) (by simp) (by omega) ?_ ?_
  · intro v rest' rv' h' hd S' R'
    rw [List.drop_zero] at hd
    exact ⟨_, rfl, .inl ⟨v, rest', rv', hd, rfl, S', R'⟩⟩
  · intro hd
    rw [List.drop_zero] at hd
    exact ⟨fun e he => ⟨_, rfl, .inr ⟨hd, e, he, rfl⟩⟩, fun y4 y5 y8 => ⟨_, rfl, .inr ⟨hd, 4, by decide, rfl⟩⟩⟩
end
end Go.Proofs.Ytagcejlclcldcaa.Sh
