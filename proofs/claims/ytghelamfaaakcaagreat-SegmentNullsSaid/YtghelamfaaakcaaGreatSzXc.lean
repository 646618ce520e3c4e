/- Texts plain: told one by one; whether they may be. -/
import Derived.Test.YtghelamfaaakcaaGreatSzXa
import Derived.Test.YtghelamfaaakcaaGreatSzOc
set_option linter.unusedVariables false
set_option linter.unusedSimpArgs false
set_option maxRecDepth 100000
namespace Go.Proofs.YtghelamfaaakcaaGreat.Sh
open Go Go.RowKit Go.Proofs.Ev
theorem bzXc : type_of% (And.intro @ld3 (And.intro @ld9 (And.intro @ld122 (And.intro @ld33 (And.intro (fun a h => conv_int (a := a) (h := h) u3 u60) (And.intro @Nat.add_zero (And.intro @ex2_0 (@ex2_1)))))))) := And.intro @ld3 (And.intro @ld9 (And.intro @ld122 (And.intro @ld33 (And.intro (fun a h => conv_int (a := a) (h := h) u3 u60) (And.intro @Nat.add_zero (And.intro @ex2_0 (@ex2_1)))))))
/-! ### May texts be? -/
def longS (s : ByteArray) : Bool := decide ((s.size : Int) > 65536)
theorem f169c {k : Nat} (s : ByteArray) (h : AH) : callV (eInv env (k + 1)) (.func (.func 169) #[] #[]) #[.string s] h = some (.bool (longS s), h) := by
  rw [callV_fn1, F169_call]
  unfold F169
  simp only [len_s, bin_gtr, bnd_some, longS]
theorem f175_loop {β : Type} {inv : Inv} {k : Nat} {Q : β → Prop} {h : AH} {v fv : Value} {l : List ByteArray} {p : ByteArray → Bool} (A : Strs h v l) (hl : l.length ≤ 2 ^ 40) (hp : ∀ x, callV inv fv #[.string x] h = some (.bool (p x), h)) {ke0 : Value → Value → Value → Value → Value → AH → Option β} {kr : Value → AH → Option β} (n : Nat) :
    ∀ {i j : Nat}, i + n = l.length → n < j → ((l.drop i).any p = false → ∀ y1 y2, Tl (ke0 v fv (.int .i64 l.length) y1 y2 h) Q) → ((l.drop i).any p = true → ∀ z : Nat, Tl (kr (.int .i64 z) h) Q) →
      Tl (F175_lrlr inv k j v fv (.int .i64 l.length) (.int .i64 i) h ke0 kr) Q := by
  induction n with
  | zero =>
    intro i j hi hj hk hr
    obtain ⟨j, rfl⟩ : ∃ q, j = q + 1 := ⟨j - 1, by omega⟩
    simp only [F175_lrlr]
    repeat (first | (with_reducible apply qzV; simp (disch := omega) only [coreA, Int.reduceBEq, bzXc] <;> with_reducible rfl) | (with_reducible first | apply qzT | apply qzF | apply qzG | apply qzH) | ((with_reducible first | apply qzB | apply qzC | apply qzD); simp (disch := omega) only [coreA, Int.reduceBEq, bzXc] <;> with_reducible rfl))
    rw [List.drop_eq_nil_of_le (by omega)] at hk
    exact hk rfl _ _
  | succ n ih =>
    intro i j hi hj hk hr
    obtain ⟨j, rfl⟩ : ∃ q, j = q + 1 := ⟨j - 1, by omega⟩
    obtain ⟨x, ex⟩ : ∃ x, l[i]? = some x := ⟨_, List.getElem?_eq_getElem (by omega)⟩
    obtain ⟨b, o, hpp, hc⟩ := A.at_ (k := .i64) ex
    have hc := hc h (Grow.refl _)
    have hd : l.drop i = x :: l.drop (i + 1) := by rw [List.drop_eq_getElem?_toList_append, ex]; rfl
    rw [hd, List.any_cons] at hk hr
    have e : (i : Int) + 1 = ((i + 1 : Nat) : Int) := by omega
    have e1 := hp x
    simp only [F175_lrlr]
    cases q : p x
    · rw [q] at e1
      repeat (first | (with_reducible apply qzV; simp (disch := omega) only [coreA, Int.reduceBEq, bzXc, hpp, hc, e1] <;> with_reducible rfl) | (with_reducible first | apply qzT | apply qzF | apply qzG | apply qzH) | ((with_reducible first | apply qzB | apply qzC | apply qzD); simp (disch := omega) only [coreA, Int.reduceBEq, bzXc, hpp, hc, e1] <;> with_reducible rfl))
      rw [e]
      exact ih (by omega) (by omega) (fun h => hk (by rw [q, h]; rfl)) (fun h => hr (by rw [h]; simp))
    · rw [q] at e1
      repeat (first | (with_reducible apply qzV; simp (disch := omega) only [coreA, Int.reduceBEq, bzXc, hpp, hc, e1] <;> with_reducible rfl) | (with_reducible first | apply qzT | apply qzF | apply qzG | apply qzH) | ((with_reducible first | apply qzB | apply qzC | apply qzD); simp (disch := omega) only [coreA, Int.reduceBEq, bzXc, hpp, hc, e1] <;> with_reducible rfl))
      exact hr (by rw [q]; rfl) i
theorem f168c {k : Nat} {h : AH} {v fv : Value} {l : List ByteArray} {p : ByteArray → Bool} (A : Strs h v l) (hl : l.length ≤ 2 ^ 40) (hp : ∀ x, callV (eInv env (k + 1)) fv #[.string x] h = some (.bool (p x), h)) (hk : l.length < k + 1) :
    eInv env (k + 3) (.func 168) #[] #[v, fv] h = some (.bool (l.any p), h) := by
  have T : Tl (F175 (eInv env (k + 1)) (k + 1) v fv h) fun r => ∃ z : Int, r = (.int .i64 z, h) ∧ decide (z ≥ 0) = l.any p := by
    unfold F175
    have ll : ∀ h', pLen Tryz.prog #[122] v h' = some (.int .i64 l.length) := fun h' => A.len
    repeat (first | (with_reducible apply qzV; simp (disch := omega) only [coreA, Int.reduceBEq, bzXc, ll] <;> with_reducible rfl) | (with_reducible first | apply qzT | apply qzF | apply qzG | apply qzH) | ((with_reducible first | apply qzB | apply qzC | apply qzD); simp (disch := omega) only [coreA, Int.reduceBEq, bzXc, ll] <;> with_reducible rfl))
    refine f175_loop A hl hp l.length (i := 0) (by omega) (by omega) (fun hq y1 y2 => ⟨_, rfl, -1, rfl, ?_⟩) (fun hq z => ⟨_, rfl, z, rfl, ?_⟩)
    · rw [List.drop_zero] at hq
      rw [hq]; rfl
    · rw [List.drop_zero] at hq
      rw [hq]; simp
  obtain ⟨r, h1, z, h2, h3⟩ := T
  rw [F168_call]
  unfold F168
  rw [F175_call, h1, h2]
  simp only [bnd_some, bin_geq, h3]
def mayT (l : List ByteArray) : Bool := decide (l.length ≤ 4096) && !(l.any longS)
def checkT (l : List ByteArray) : Int := if mayT l then 0 else 3
theorem f155c {k : Nat} {h : AH} {v : Value} {l : List ByteArray} (A : Strs h v l) (hl : l.length ≤ 9223372036854775807) (hk : 4096 < k + 1) : eInv env (k + 4) (.func 155) #[] #[v] h = some (.int .i64 (checkT l), h) := by
  have T : Tl (F155 (eInv env (k + 3)) (k + 3) v h) fun r => r = (.int .i64 (checkT l), h) := by
    unfold F155
    have ll : ∀ h', pLen Tryz.prog #[122] v h' = some (.int .i64 l.length) := fun h' => A.len
    by_cases q : l.length ≤ 4096
    · have hc := f168c (k := k) (p := longS) A (by omega) (fun x => f169c x h) (by omega)
      unfold checkT mayT
      cases q2 : l.any longS
      · rw [q2] at hc
        repeat (first | (with_reducible apply qzV; simp (disch := omega) only [coreA, Int.reduceBEq, bzXc, ll, hc] <;> with_reducible rfl) | (with_reducible first | apply qzT | apply qzF | apply qzG | apply qzH) | ((with_reducible first | apply qzB | apply qzC | apply qzD); simp (disch := omega) only [coreA, Int.reduceBEq, bzXc, ll, hc] <;> with_reducible rfl))
        exact ⟨_, rfl, by simp [q]⟩
      · rw [q2] at hc
        repeat (first | (with_reducible apply qzV; simp (disch := omega) only [coreA, Int.reduceBEq, bzXc, ll, hc] <;> with_reducible rfl) | (with_reducible first | apply qzT | apply qzF | apply qzG | apply qzH) | ((with_reducible first | apply qzB | apply qzC | apply qzD); simp (disch := omega) only [coreA, Int.reduceBEq, bzXc, ll, hc] <;> with_reducible rfl))
        exact ⟨_, rfl, by simp⟩
    · repeat (first | (with_reducible apply qzV; simp (disch := omega) only [coreA, Int.reduceBEq, bzXc, ll] <;> with_reducible rfl) | (with_reducible first | apply qzT | apply qzF | apply qzG | apply qzH) | ((with_reducible first | apply qzB | apply qzC | apply qzD); simp (disch := omega) only [coreA, Int.reduceBEq, bzXc, ll] <;> with_reducible rfl))
      exact ⟨_, rfl, by unfold checkT mayT; simp [q]⟩
  obtain ⟨r, h1, h2⟩ := T
  rw [F155_call, h1, h2]
/-! ### Told one by one -/
theorem appStr : AppG Tryz.prog #[33, 9] 5 1 1 := ⟨by kernel_rfl, ⟨_, u9, rfl⟩, by kernel_rfl, by omega, by kernel_rfl, ⟨_, ze5, rfl, rfl⟩⟩
def textP (s : ByteArray) : List Nat := pvarN s.size ++ bytesN s
theorem textP_len (s : ByteArray) (hs : s.size ≤ 2 ^ 29) : (textP s).length ≤ s.size + 10 := by
  unfold textP
  rw [List.length_append, bytesN_len]
  have := pvarN_le10 (n := s.size) (by omega)
  omega
section
variable {β : Type} {Q : β → Prop} {n0 : Nat} {h0 h : AH} {L : List (Nat × AO)} {O : List OS}
theorem f156c {k : Nat} {v : Value} {l : List Nat} {s : ByteArray} (hs : s.size ≤ 2 ^ 29) (hl : l.length ≤ 2 ^ 29) (S : Stt Tryz.prog n0 h0 h L ((v, 1, u8rows l) :: O)) :
    Tl (eInv env (k + 21) (.func 156) #[] #[v, .string s] h) fun r => Stt Tryz.prog n0 h0 r.2 L ((r.1, 1, u8rows (l ++ textP s)) :: O) := by
  rw [F156_call]
  unfold F156
  repeat (first | (with_reducible apply qzV; simp (disch := omega) only [coreA, Int.reduceBEq, bzXc, len_s] <;> with_reducible rfl) | (with_reducible first | apply qzT | apply qzF | apply qzG | apply qzH) | ((with_reducible first | apply qzB | apply qzC | apply qzD); simp (disch := omega) only [coreA, Int.reduceBEq, bzXc, len_s] <;> with_reducible rfl))
  refine Tl.bind (f47c (k := k) s.size (by omega) hl S) ?_
  rintro ⟨v', h'⟩ S'
  simp only at S'
  have h10 := pvarN_le10 (n := s.size) (by omega)
  refine Tl.appendS S' 0 rfl appStr (by rw [u8rows_len, List.length_append]; omega) fun v'' h'' S'' => ?_
  repeat (first | (with_reducible apply qzV; simp (disch := omega) only [coreA, Int.reduceBEq, bzXc] <;> with_reducible rfl) | (with_reducible first | apply qzT | apply qzF | apply qzG | apply qzH) | ((with_reducible first | apply qzB | apply qzC | apply qzD); simp (disch := omega) only [coreA, Int.reduceBEq, bzXc] <;> with_reducible rfl))
  refine ⟨_, rfl, ?_⟩
  have e : u8rows (l ++ textP s) = u8rows (l ++ pvarN s.size) ++ (bytesN s).map fun x : Nat => [Value.int .u8 (x : Int)] := by
    unfold textP
    rw [← List.append_assoc]
    exact List.map_append
  rw [e]
  exact S''
theorem f130_loop {k : Nat} {v : Value} {l : List ByteArray} (A : Strs h0 v l) (hl : l.length ≤ 4096) (hs : ∀ x ∈ l, x.size ≤ 65536) {ke0 : Value → Value → Value → Value → Value → AH → Option β} (n : Nat) :
    ∀ {i j : Nat} {h : AH} {ov : Value} {out : List Nat}, i + n = l.length → n < j → out.length ≤ 20 + i * 65546 → Stt Tryz.prog h0.n h0 h L ((ov, 1, u8rows out) :: O) →
      (∀ h' y y1 y2, Stt Tryz.prog h0.n h0 h' L ((y, 1, u8rows (out ++ (l.drop i).flatMap textP)) :: O) → Tl (ke0 y v (.int .i64 l.length) y1 y2 h') Q) →
      Tl (F130_lrlrrr (eInv env (k + 21)) (k + 21) j ov v (.int .i64 l.length) (.int .i64 i) h ke0) Q := by
  induction n with
  | zero =>
    intro i j h ov out hi hj ho S hk
    obtain ⟨j, rfl⟩ : ∃ q, j = q + 1 := ⟨j - 1, by omega⟩
    simp only [F130_lrlrrr]
    repeat (first | (with_reducible apply qzV; simp (disch := omega) only [coreA, Int.reduceBEq, bzXc] <;> with_reducible rfl) | (with_reducible first | apply qzT | apply qzF | apply qzG | apply qzH) | ((with_reducible first | apply qzB | apply qzC | apply qzD); simp (disch := omega) only [coreA, Int.reduceBEq, bzXc] <;> with_reducible rfl))
    rw [List.drop_eq_nil_of_le (by omega)] at hk
    refine hk _ _ _ _ ?_
    simpa using S
  | succ n ih =>
    intro i j h ov out hi hj ho S hk
    obtain ⟨j, rfl⟩ : ∃ q, j = q + 1 := ⟨j - 1, by omega⟩
    obtain ⟨x, ex⟩ : ∃ x, l[i]? = some x := ⟨_, List.getElem?_eq_getElem (by omega)⟩
    obtain ⟨b, o, hp, hc⟩ := (A.grow S.grow).at_ (k := .i64) ex
    have hc := hc h (Grow.refl _)
    have hx := hs x (List.mem_of_getElem? ex)
    have hd : l.drop i = x :: l.drop (i + 1) := by rw [List.drop_eq_getElem?_toList_append, ex]; rfl
    have e : (i : Int) + 1 = ((i + 1 : Nat) : Int) := by omega
    simp only [F130_lrlrrr]
    repeat (first | (with_reducible apply qzV; simp (disch := omega) only [coreA, Int.reduceBEq, bzXc, hp, hc] <;> with_reducible rfl) | (with_reducible first | apply qzT | apply qzF | apply qzG | apply qzH) | ((with_reducible first | apply qzB | apply qzC | apply qzD); simp (disch := omega) only [coreA, Int.reduceBEq, bzXc, hp, hc] <;> with_reducible rfl))
    have him : i * 65546 ≤ 4096 * 65546 := Nat.mul_le_mul_right _ (by omega)
    refine Tl.bind (f156c (k := k) (s := x) (by omega) (by omega) S) ?_
    rintro ⟨v', h'⟩ S'
    simp only at S'
    have ht := textP_len x (by omega)
    repeat (first | (with_reducible apply qzV; simp (disch := omega) only [coreA, Int.reduceBEq, bzXc] <;> with_reducible rfl) | (with_reducible first | apply qzT | apply qzF | apply qzG | apply qzH) | ((with_reducible first | apply qzB | apply qzC | apply qzD); simp (disch := omega) only [coreA, Int.reduceBEq, bzXc] <;> with_reducible rfl))
    rw [e]
    refine ih (out := out ++ textP x) (by omega) (by omega) (by rw [List.length_append]; omega) S' fun h' y y1 y2 S'' => hk h' y y1 y2 ?_
    rw [hd, List.flatMap_cons, ← List.append_assoc]
    exact S''
def plainT (l : List ByteArray) : List Nat := 1 :: (pvarN l.length ++ l.flatMap textP)
def plainG (l : List ByteArray) : List Nat := if mayT l then plainT l else []
theorem mayT_spec {l : List ByteArray} : mayT l = true ↔ l.length ≤ 4096 ∧ ∀ x ∈ l, x.size ≤ 65536 := by
  unfold mayT
  rw [Bool.and_eq_true, decide_eq_true_eq, Bool.not_eq_true', List.any_eq_false]
  refine and_congr_right fun _ => forall_congr' fun x => forall_congr' fun _ => ?_
  unfold longS
  simp
  omega
theorem f130c {k : Nat} {v : Value} {l : List ByteArray} (A : Strs h v l) (hl : l.length ≤ 9223372036854775807) (hk : 4096 < k + 18) :
    Tl (eInv env (k + 22) (.func 130) #[] #[v] h) fun r => ∃ v', r.1 = .tuple #[v', .int .i64 (checkT l)] ∧ Stt Tryz.prog h.n h r.2 [] [(v', 1, u8rows (plainG l))] := by
  rw [F130_call]
  unfold F130
  have hc := f155c (k := k + 17) A hl (by omega)
  have ll : ∀ h', pLen Tryz.prog #[122] v h' = some (.int .i64 l.length) := fun h' => A.len
  unfold checkT plainG at *
  cases q : mayT l
  · rw [q] at hc
    simp only [Bool.false_eq_true, if_false] at hc ⊢
    repeat (first | (with_reducible apply qzV; simp (disch := omega) only [coreA, Int.reduceBEq, bzXc, hc] <;> with_reducible rfl) | (with_reducible first | apply qzT | apply qzF | apply qzG | apply qzH) | ((with_reducible first | apply qzB | apply qzC | apply qzD); simp (disch := omega) only [coreA, Int.reduceBEq, bzXc, hc] <;> with_reducible rfl))
    exact ⟨_, rfl, _, rfl, (Stt.init h).nil 1⟩
  · rw [q] at hc
    simp only [if_true] at hc ⊢
    obtain ⟨q1, q2⟩ := mayT_spec.1 q
    repeat (first | (with_reducible apply qzV; simp (disch := omega) only [coreA, Int.reduceBEq, bzXc, hc, bs33, ll] <;> with_reducible rfl) | (with_reducible first | apply qzT | apply qzF | apply qzG | apply qzH) | ((with_reducible first | apply qzB | apply qzC | apply qzD); simp (disch := omega) only [coreA, Int.reduceBEq, bzXc, hc, bs33, ll] <;> with_reducible rfl))
    have S0 : Stt Tryz.prog h.n h (h.alloc (.cells (u8rows [1]).flatten 5 true)) [(h.n, .cells (u8rows [1]).flatten 5 true)] [] := (Stt.init h).alloc _
    have S1 := S0.absorb (n := 1) (u8v_wide [1]) sz5
    refine Tl.bind (f47c (k := k + 1) l.length (by omega) (by simp) S1) ?_
    rintro ⟨v2, h2⟩ S2
    simp only at S2
    have h10 := pvarN_le10 (n := l.length) (by omega)
    repeat (first | (with_reducible apply qzV; simp (disch := omega) only [coreA, Int.reduceBEq, bzXc, ll] <;> with_reducible rfl) | (with_reducible first | apply qzT | apply qzF | apply qzG | apply qzH) | ((with_reducible first | apply qzB | apply qzC | apply qzD); simp (disch := omega) only [coreA, Int.reduceBEq, bzXc, ll] <;> with_reducible rfl))
    refine f130_loop (k := k) A q1 q2 l.length (i := 0) (out := [1] ++ pvarN l.length) (by omega) (by omega) (by simp; omega) S2 fun h' y y1 y2 S' => ?_
    refine ⟨_, rfl, _, rfl, ?_⟩
    unfold plainT
    rw [List.drop_zero] at S'
    simpa using S'
end
end Go.Proofs.YtghelamfaaakcaaGreat.Sh
