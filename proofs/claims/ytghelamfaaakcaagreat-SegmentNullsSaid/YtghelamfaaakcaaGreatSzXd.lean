/- Texts by their words' numbers. -/
import Derived.Test.YtghelamfaaakcaaGreatSzXb
import Derived.Test.YtghelamfaaakcaaGreatSzXc
import Derived.Test.YtghelamfaaakcaaGreatSzPb
set_option linter.unusedVariables false
set_option linter.unusedSimpArgs false
set_option maxRecDepth 100000
namespace Go.Proofs.YtghelamfaaakcaaGreat.Sh
open Go Go.RowKit Go.Proofs.Ev
theorem bzXd : type_of% (And.intro @ld3 (And.intro @ld9 (And.intro @ld122 (And.intro @ld33 (And.intro @ld60 (And.intro (fun a h => conv_int (a := a) (h := h) u3 u60) (And.intro (fun a h => conv_int (a := a) (h := h) u3 u5) (And.intro (fun a h => conv_int (a := a) (h := h) u3 u109) (And.intro (fun a h => conv_int (a := a) (h := h) u109 u3) (And.intro @Nat.add_zero (And.intro @ex2_0 (@ex2_1)))))))))))) := And.intro @ld3 (And.intro @ld9 (And.intro @ld122 (And.intro @ld33 (And.intro @ld60 (And.intro (fun a h => conv_int (a := a) (h := h) u3 u60) (And.intro (fun a h => conv_int (a := a) (h := h) u3 u5) (And.intro (fun a h => conv_int (a := a) (h := h) u3 u109) (And.intro (fun a h => conv_int (a := a) (h := h) u109 u3) (And.intro @Nat.add_zero (And.intro @ex2_0 (@ex2_1)))))))))))
/-! ### A word's number -/
theorem str_lt {x y : Operand} {a b : ByteArray} : pBin Tryz.prog .lss 9 x y (.string a) (.string b) = some (.bool (decide (ltB a b))) := by
  have h1 : pBin Tryz.prog .lss 9 x y (.string a) (.string b) = some (.bool (Op.bytesLess a.toList b.toList)) := rfl
  rw [h1, ByteArray.toList_eq, ByteArray.toList_eq, bytesLess_eq]
  rfl
theorem f179c {k : Nat} (s : ByteArray) (h : AH) : eInv env (k + 1) (.func 179) #[] #[.string s] h = some (.bool false, h) := by
  rw [F179_call]
  unfold F179
  rw [ne_s]
  simp
theorem f172c {k : Nat} (a b : ByteArray) (h : AH) : eInv env (k + 2) (.func 172) #[] #[.string a, .string b] h = some (.bool (decide (ltB a b)), h) := by
  have T : Tl (F172 (eInv env (k + 1)) (k + 1) (.string a) (.string b) h) fun r => r = (.bool (decide (ltB a b)), h) := by
    unfold F172
    simp only [G172_1]
    have h1 := f179c (k := k) a h
    have h2 : ∀ x y, pBin Tryz.prog .lss 9 x y (.string a) (.string b) = some (.bool (decide (ltB a b))) := fun _ _ => str_lt
    repeat (first | (with_reducible apply qzV; simp (disch := omega) only [coreA, Int.reduceBEq, bzXd, h1, h2] <;> with_reducible rfl) | (with_reducible first | apply qzT | apply qzF | apply qzG | apply qzH) | ((with_reducible first | apply qzB | apply qzC | apply qzD); simp (disch := omega) only [coreA, Int.reduceBEq, bzXd, h1, h2] <;> with_reducible rfl))
    exact ⟨_, rfl, rfl⟩
  obtain ⟨r, h1, h2⟩ := T
  rw [F172_call, h1, h2]
theorem f158_loop {β : Type} {k : Nat} {Q : β → Prop} {h : AH} {wv x6 : Value} {w : List ByteArray} {s : ByteArray} {p : Nat} (W : Strs h wv w) (hw : w.length ≤ 2 ^ 40) (hr : w.Pairwise ltB) (hp : w[p]? = some s) {ke0 : Value → Value → Value → Value → Value → Value → AH → Option β} (hk : ∀ y1 y2, Tl (ke0 wv (.string s) x6 (.int .i64 p) y1 y2 h) Q) (n : Nat) :
    ∀ {lo hi j : Nat}, hi ≤ lo + n → n < j → lo ≤ p → p ≤ hi → hi ≤ w.length → Tl (F158_llrrr (eInv env (k + 2)) (k + 2) j wv (.string s) x6 (.int .i64 lo) (.int .i64 hi) h ke0) Q := by
  induction n with
  | zero =>
    intro lo hi j hn hj h1 h2 h3
    obtain ⟨j, rfl⟩ : ∃ q, j = q + 1 := ⟨j - 1, by omega⟩
    obtain rfl : lo = p := by omega
    simp only [F158_llrrr]
    repeat (first | (with_reducible apply qzV; simp (disch := omega) only [coreA, Int.reduceBEq, bzXd] <;> with_reducible rfl) | (with_reducible first | apply qzT | apply qzF | apply qzG | apply qzH) | ((with_reducible first | apply qzB | apply qzC | apply qzD); simp (disch := omega) only [coreA, Int.reduceBEq, bzXd] <;> with_reducible rfl))
    exact hk _ _
  | succ n ih =>
    intro lo hi j hn hj h1 h2 h3
    obtain ⟨j, rfl⟩ : ∃ q, j = q + 1 := ⟨j - 1, by omega⟩
    by_cases q : lo < hi
    · obtain ⟨m, hm⟩ : ∃ m, m = (lo + hi) / 2 := ⟨_, rfl⟩
      have hmlt : m < w.length := by omega
      obtain ⟨x, ex⟩ : ∃ x, w[m]? = some x := ⟨_, List.getElem?_eq_getElem hmlt⟩
      obtain ⟨b, o, hpp, hc⟩ := W.at_ (k := .i64) ex
      have hc := hc h (Grow.refl _)
      have sh : ∀ t a b, pBin Tryz.prog Go.BinOp.shr t a b (.int .u64 ((lo : Int) + (hi : Int))) (.int .u64 1) = some (.int .u64 (m : Int)) := fun t a b => by
        rw [shr_nn (by decide)]
        have h2 : min (1 : Int).toNat IntKind.u64.bits = 1 := by decide
        rw [h2, Int.fdiv_eq_ediv_of_nonneg _ (by decide)]
        have : (2 : Int) ^ 1 = 2 := by decide
        rw [this]
        congr 2
        omega
      have hl := f172c (k := k) x s h
      have e : (m : Int) + 1 = ((m + 1 : Nat) : Int) := by omega
      have hps := (List.getElem?_eq_some_iff.1 hp)
      have hms := (List.getElem?_eq_some_iff.1 ex)
      obtain ⟨lp, es⟩ := hps
      obtain ⟨lm, exx⟩ := hms
      simp only [F158_llrrr]
      by_cases q2 : m < p
      · have hlt : ltB x s := by rw [← es, ← exx]; exact List.pairwise_iff_getElem.1 hr _ _ lm lp q2
        rw [decide_eq_true hlt] at hl
        repeat (first | (with_reducible apply qzV; simp (disch := omega) only [coreA, Int.reduceBEq, bzXd, sh, hpp, hc, hl] <;> with_reducible rfl) | (with_reducible first | apply qzT | apply qzF | apply qzG | apply qzH) | ((with_reducible first | apply qzB | apply qzC | apply qzD); simp (disch := omega) only [coreA, Int.reduceBEq, bzXd, sh, hpp, hc, hl] <;> with_reducible rfl))
        rw [e]
        exact ih (by omega) (by omega) (by omega) h2 h3
      · have hnlt : ¬ ltB x s := by
          by_cases q3 : m = p
          · subst q3
            rw [hp] at ex
            cases ex
            exact ltB_irrefl _
          · have : ltB s x := by rw [← es, ← exx]; exact List.pairwise_iff_getElem.1 hr _ _ lp lm (by omega)
            exact fun h => ltB_irrefl _ (ltB_trans h this)
        rw [decide_eq_false hnlt] at hl
        repeat (first | (with_reducible apply qzV; simp (disch := omega) only [coreA, Int.reduceBEq, bzXd, sh, hpp, hc, hl] <;> with_reducible rfl) | (with_reducible first | apply qzT | apply qzF | apply qzG | apply qzH) | ((with_reducible first | apply qzB | apply qzC | apply qzD); simp (disch := omega) only [coreA, Int.reduceBEq, bzXd, sh, hpp, hc, hl] <;> with_reducible rfl))
        exact ih (by omega) (by omega) h1 (by omega) (by omega)
    · obtain rfl : lo = p := by omega
      simp only [F158_llrrr]
      repeat (first | (with_reducible apply qzV; simp (disch := omega) only [coreA, Int.reduceBEq, bzXd] <;> with_reducible rfl) | (with_reducible first | apply qzT | apply qzF | apply qzG | apply qzH) | ((with_reducible first | apply qzB | apply qzC | apply qzD); simp (disch := omega) only [coreA, Int.reduceBEq, bzXd] <;> with_reducible rfl))
      exact hk _ _
theorem f158c {k : Nat} {h : AH} {wv : Value} {w : List ByteArray} {s : ByteArray} {p : Nat} (W : Strs h wv w) (hw : w.length ≤ 2 ^ 40) (hr : w.Pairwise ltB) (hp : w[p]? = some s) (hk : w.length < k + 2) :
    eInv env (k + 3) (.func 158) #[] #[wv, .string s] h = some (.tuple #[.int .i64 p, .bool true], h) := by
  have hlt := (List.getElem?_eq_some_iff.1 hp).1
  have T : Tl (F158 (eInv env (k + 2)) (k + 2) wv (.string s) h) fun r => r = (.tuple #[.int .i64 p, .bool true], h) := by
    unfold F158
    have hv : ∀ h', pLen Tryz.prog #[122] wv h' = some (.int .i64 w.length) := fun h' => W.len
    repeat (first | (with_reducible apply qzV; simp (disch := omega) only [coreA, Int.reduceBEq, bzXd, hv] <;> with_reducible rfl) | (with_reducible first | apply qzT | apply qzF | apply qzG | apply qzH) | ((with_reducible first | apply qzB | apply qzC | apply qzD); simp (disch := omega) only [coreA, Int.reduceBEq, bzXd, hv] <;> with_reducible rfl))
    refine f158_loop (k := k) W hw hr hp (fun y1 y2 => ?_) w.length (lo := 0) (by omega) (by omega) (by omega) (by omega) (by omega)
    obtain ⟨b, o, hpp, hc⟩ := W.at_ (k := .i64) hp
    have hc := hc h (Grow.refl _)
    have hq : ∀ ox oy, pBin Tryz.prog .eql 9 ox oy (.string s) (.string s) = some (.bool true) := fun ox oy => by rw [eq_s]; simp
    simp only [G158_8]
    repeat (first | (with_reducible apply qzV; simp (disch := omega) only [coreA, Int.reduceBEq, bzXd, hpp, hc, hq] <;> with_reducible rfl) | (with_reducible first | apply qzT | apply qzF | apply qzG | apply qzH) | ((with_reducible first | apply qzB | apply qzC | apply qzD); simp (disch := omega) only [coreA, Int.reduceBEq, bzXd, hpp, hc, hq] <;> with_reducible rfl))
    exact ⟨_, rfl, rfl⟩
  obtain ⟨r, h1, h2⟩ := T
  rw [F158_call, h1, h2]
/-! ### 'Dict' -/
def posS (w : List ByteArray) (s : ByteArray) : Nat := w.findIdx fun x => decide (x = s)
theorem posS_at {w : List ByteArray} {s : ByteArray} (h : s ∈ w) : w[posS w s]? = some s := by
  have h1 : w.findIdx (fun x => decide (x = s)) < w.length := List.findIdx_lt_length_of_exists ⟨s, h, by simp⟩
  have h2 := List.findIdx_getElem (p := fun x => decide (x = s)) (w := h1)
  simp only [decide_eq_true_eq] at h2
  unfold posS
  rw [List.getElem?_eq_getElem h1, h2]
theorem posS_lt {w : List ByteArray} {s : ByteArray} (h : s ∈ w) : posS w s < w.length := (List.getElem?_eq_some_iff.1 (posS_at h)).1
def atW (l : List ByteArray) : List Nat := l.map (posS (wordsB l))
def widW (l : List ByteArray) : Nat := Pk.widthN (atW l)
def dictT (l : List ByteArray) : List Nat := [2] ++ pvarN l.length ++ pvarN (wordsB l).length ++ (wordsB l).flatMap textP ++ [widW l] ++ putN (widW l) (atW l)
def dictG (l : List ByteArray) : List Nat := if mayT l then dictT l else []
theorem atW_lt {l : List ByteArray} : ∀ x ∈ atW l, x < l.length := fun x hx => by
  obtain ⟨s, hs, rfl⟩ := List.mem_map.1 hx
  have := posS_lt (wordsB_mem.2 hs)
  have := wordsB_len l
  omega
section
variable {β : Type} {Q : β → Prop} {n0 : Nat} {h0 h : AH} {L : List (Nat × AO)} {O : List OS}
theorem f131_l1 {k : Nat} {wv x0 x5 : Value} {w : List ByteArray} (hl : w.length ≤ 4096) (hs : ∀ x ∈ w, x.size ≤ 65536) {ke0 : Value → Value → Value → Value → Value → Value → Value → AH → Option β} (n : Nat) :
    ∀ {i j : Nat} {h : AH} {ov : Value} {out : List Nat}, i + n = w.length → n < j → out.length ≤ 40 + i * 65546 → Stt Tryz.prog n0 h0 h L ((ov, 1, u8rows out) :: (wv, 1, srows w) :: O) →
      (∀ h' y y1 y2, Stt Tryz.prog n0 h0 h' L ((y, 1, u8rows (out ++ (w.drop i).flatMap textP)) :: (wv, 1, srows w) :: O) → (out ++ (w.drop i).flatMap textP).length ≤ 40 + w.length * 65546 → Tl (ke0 x0 x5 y wv (.int .i64 w.length) y1 y2 h') Q) →
      Tl (F131_lrlrrrr (eInv env (k + 21)) (k + 21) j x0 x5 ov wv (.int .i64 w.length) (.int .i64 i) h ke0) Q := by
  induction n with
  | zero =>
    intro i j h ov out hi hj ho S hk
    obtain ⟨j, rfl⟩ : ∃ q, j = q + 1 := ⟨j - 1, by omega⟩
    simp only [F131_lrlrrrr]
    repeat (first | (with_reducible apply qzV; simp (disch := omega) only [coreA, Int.reduceBEq, bzXd] <;> with_reducible rfl) | (with_reducible first | apply qzT | apply qzF | apply qzG | apply qzH) | ((with_reducible first | apply qzB | apply qzC | apply qzD); simp (disch := omega) only [coreA, Int.reduceBEq, bzXd] <;> with_reducible rfl))
    obtain rfl : i = w.length := by omega
    rw [List.drop_eq_nil_of_le (Nat.le_refl _)] at hk
    simp only [List.flatMap_nil, List.append_nil] at hk
    exact hk _ _ _ _ S ho
  | succ n ih =>
    intro i j h ov out hi hj ho S hk
    obtain ⟨j, rfl⟩ : ∃ q, j = q + 1 := ⟨j - 1, by omega⟩
    obtain ⟨x, ex⟩ : ∃ x, w[i]? = some x := ⟨_, List.getElem?_eq_getElem (by omega)⟩
    obtain ⟨b, o, hp, hc⟩ := (Stt.strs S 1 rfl).at_ (k := .i64) ex
    have hc := hc h (Grow.refl _)
    have hx := hs x (List.mem_of_getElem? ex)
    have hd : w.drop i = x :: w.drop (i + 1) := by rw [List.drop_eq_getElem?_toList_append, ex]; rfl
    have e : (i : Int) + 1 = ((i + 1 : Nat) : Int) := by omega
    simp only [F131_lrlrrrr]
    repeat (first | (with_reducible apply qzV; simp (disch := omega) only [coreA, Int.reduceBEq, bzXd, hp, hc] <;> with_reducible rfl) | (with_reducible first | apply qzT | apply qzF | apply qzG | apply qzH) | ((with_reducible first | apply qzB | apply qzC | apply qzD); simp (disch := omega) only [coreA, Int.reduceBEq, bzXd, hp, hc] <;> with_reducible rfl))
    have him : i * 65546 ≤ 4096 * 65546 := Nat.mul_le_mul_right _ (by omega)
    refine Tl.bind (f156c (k := k) (s := x) (by omega) (by omega) S) ?_
    rintro ⟨v', h'⟩ S'
    simp only at S'
    have ht := textP_len x (by omega)
    repeat (first | (with_reducible apply qzV; simp (disch := omega) only [coreA, Int.reduceBEq, bzXd] <;> with_reducible rfl) | (with_reducible first | apply qzT | apply qzF | apply qzG | apply qzH) | ((with_reducible first | apply qzB | apply qzC | apply qzD); simp (disch := omega) only [coreA, Int.reduceBEq, bzXd] <;> with_reducible rfl))
    rw [e]
    rw [hd, List.flatMap_cons, ← List.append_assoc] at hk
    exact ih (out := out ++ textP x) (by omega) (by omega) (by rw [List.length_append, Nat.succ_mul]; omega) S' hk
theorem f131_l2 {k : Nat} {v wv x6 : Value} {l w : List ByteArray} {O : List OS} {out : List (List Value)} (A : Strs h0 v l) (hl : l.length ≤ 4096) (hw : w.length ≤ 4096) (hr : w.Pairwise ltB) (hm : ∀ x ∈ l, x ∈ w) (hk' : w.length < k + 2) {ke0 : Value → Value → Value → Value → Value → Value → Value → AH → Option β} (n : Nat) :
    ∀ {i j : Nat} {h : AH} {ov : Value} {done : List Nat}, i + n = l.length → n < j → done.length = i → Stt Tryz.prog h0.n h0 h L ((ov, 1, u64rows done) :: (x6, 1, out) :: (wv, 1, srows w) :: O) →
      (∀ h' y y1 y2, Stt Tryz.prog h0.n h0 h' L ((y, 1, u64rows (done ++ (l.drop i).map (posS w))) :: (x6, 1, out) :: (wv, 1, srows w) :: O) → Tl (ke0 wv x6 y v (.int .i64 l.length) y1 y2 h') Q) →
      Tl (F131_lrlrrrrrr (eInv env (k + 3)) (k + 3) j wv x6 ov v (.int .i64 l.length) (.int .i64 i) h ke0) Q := by
  induction n with
  | zero =>
    intro i j h ov done hi hj hd S hk
    obtain ⟨j, rfl⟩ : ∃ q, j = q + 1 := ⟨j - 1, by omega⟩
    simp only [F131_lrlrrrrrr]
    repeat (first | (with_reducible apply qzV; simp (disch := omega) only [coreA, Int.reduceBEq, bzXd] <;> with_reducible rfl) | (with_reducible first | apply qzT | apply qzF | apply qzG | apply qzH) | ((with_reducible first | apply qzB | apply qzC | apply qzD); simp (disch := omega) only [coreA, Int.reduceBEq, bzXd] <;> with_reducible rfl))
    rw [List.drop_eq_nil_of_le (by omega)] at hk
    exact hk _ _ _ _ (by simpa using S)
  | succ n ih =>
    intro i j h ov done hi hj hd S hk
    obtain ⟨j, rfl⟩ : ∃ q, j = q + 1 := ⟨j - 1, by omega⟩
    obtain ⟨x, ex⟩ : ∃ x, l[i]? = some x := ⟨_, List.getElem?_eq_getElem (by omega)⟩
    obtain ⟨b, o, hp, hc⟩ := A.at_ (k := .i64) ex
    have hc := hc h S.grow
    have hx := hm x (List.mem_of_getElem? ex)
    have hbs := f158c (k := k) (Stt.strs S 2 rfl) (by omega) hr (posS_at hx) hk'
    have hlt := posS_lt hx
    have hdr : l.drop i = x :: l.drop (i + 1) := by rw [List.drop_eq_getElem?_toList_append, ex]; rfl
    have e : (i : Int) + 1 = ((i + 1 : Nat) : Int) := by omega
    simp only [F131_lrlrrrrrr]
    repeat (first | (with_reducible apply qzV; simp (disch := omega) only [coreA, Int.reduceBEq, bzXd, hp, hc, hbs] <;> with_reducible rfl) | (with_reducible first | apply qzT | apply qzF | apply qzG | apply qzH) | ((with_reducible first | apply qzB | apply qzC | apply qzD); simp (disch := omega) only [coreA, Int.reduceBEq, bzXd, hp, hc, hbs] <;> with_reducible rfl))
    refine Tl.push S 0 rfl app63 (bs63 _ _) rfl rfl (by rw [u64rows_len]; omega) fun v' h' S' => ?_
    repeat (first | (with_reducible apply qzV; simp (disch := omega) only [coreA, Int.reduceBEq, bzXd] <;> with_reducible rfl) | (with_reducible first | apply qzT | apply qzF | apply qzG | apply qzH) | ((with_reducible first | apply qzB | apply qzC | apply qzD); simp (disch := omega) only [coreA, Int.reduceBEq, bzXd] <;> with_reducible rfl))
    rw [e]
    rw [hdr, List.map_cons] at hk
    refine ih (done := done ++ [posS w x]) (by omega) (by omega) (by simp [hd]) (by simpa [u64rows, u64v] using S') fun h' y y1 y2 S'' => hk h' y y1 y2 ?_
    simpa using S''
theorem f131c {k : Nat} {h : AH} {v : Value} {l : List ByteArray} (A : Strs h v l) (hl : l.length ≤ 9223372036854775807) (hk : 4096 < k) :
    Tl (eInv env (k + 400) (.func 131) #[] #[v] h) fun r => ∃ v', r.1 = .tuple #[v', .int .i64 (checkT l)] ∧ Stt Tryz.prog h.n h r.2 [] [(v', 1, u8rows (dictG l))] := by
  rw [F131_call]
  unfold F131
  have hc := f155c (k := k + 395) A hl (by omega)
  have ll : ∀ h', pLen Tryz.prog #[122] v h' = some (.int .i64 l.length) := fun h' => A.len
  unfold checkT dictG at *
  cases q : mayT l
  · rw [q] at hc
    simp only [Bool.false_eq_true, if_false] at hc ⊢
    repeat (first | (with_reducible apply qzV; simp (disch := omega) only [coreA, Int.reduceBEq, bzXd, hc] <;> with_reducible rfl) | (with_reducible first | apply qzT | apply qzF | apply qzG | apply qzH) | ((with_reducible first | apply qzB | apply qzC | apply qzD); simp (disch := omega) only [coreA, Int.reduceBEq, bzXd, hc] <;> with_reducible rfl))
    exact ⟨_, rfl, _, rfl, (Stt.init h).nil 1⟩
  rw [q] at hc
  simp only [if_true] at hc ⊢
  obtain ⟨q1, q2⟩ := mayT_spec.1 q
  have hwl := wordsB_len l
  have hsm : ∀ x ∈ l, x.size ≤ maxLen := fun x hx => by have := q2 x hx; unfold maxLen; omega
  have ha := atW_lt (l := l)
  have hal : (atW l).length = l.length := List.length_map ..
  have ha64 : ∀ x ∈ atW l, x < 18446744073709551616 := fun x hx => by have := ha x hx; omega
  have hW := Pk.width64 ha64
  have hE := Pk.putE_of (l := atW l) (W := widW l) (by omega) (by unfold widW; exact hW) (Nat.le_refl _)
  repeat (first | (with_reducible apply qzV; simp (disch := omega) only [coreA, Int.reduceBEq, bzXd, hc] <;> with_reducible rfl) | (with_reducible first | apply qzT | apply qzF | apply qzG | apply qzH) | ((with_reducible first | apply qzB | apply qzC | apply qzD); simp (disch := omega) only [coreA, Int.reduceBEq, bzXd, hc] <;> with_reducible rfl))
  refine Tl.bind (f157c (k := k + 396) (Stt.init h) A hsm (by omega) (by omega)) ?_
  rintro ⟨wv, h1⟩ S1
  simp only at S1
  repeat (first | (with_reducible apply qzV; simp (disch := omega) only [coreA, Int.reduceBEq, bzXd, bs33, ll] <;> with_reducible rfl) | (with_reducible first | apply qzT | apply qzF | apply qzG | apply qzH) | ((with_reducible first | apply qzB | apply qzC | apply qzD); simp (disch := omega) only [coreA, Int.reduceBEq, bzXd, bs33, ll] <;> with_reducible rfl))
  have S1a := (show Stt Tryz.prog h.n h (h1.alloc (.cells (u8rows [2]).flatten 5 true)) [(h1.n, .cells (u8rows [2]).flatten 5 true)] [(wv, 1, srows (wordsB l))] from S1.alloc _).absorb (n := 1) (u8v_wide [2]) sz5
  refine Tl.bind (f47c (k := k + 379) l.length (by omega) (by simp) S1a) ?_
  rintro ⟨o1, h2⟩ S2
  simp only at S2
  have lw : ∀ h', pLen Tryz.prog #[122] wv h' = some (.int .i64 (wordsB l).length) := fun h' => (Stt.strs S2 1 rfl).len
  have p1 := pvarN_le10 (n := l.length) (by omega)
  have p2 := pvarN_le10 (n := (wordsB l).length) (by omega)
  repeat (first | (with_reducible apply qzV; simp (disch := omega) only [coreA, Int.reduceBEq, bzXd, lw] <;> with_reducible rfl) | (with_reducible first | apply qzT | apply qzF | apply qzG | apply qzH) | ((with_reducible first | apply qzB | apply qzC | apply qzD); simp (disch := omega) only [coreA, Int.reduceBEq, bzXd, lw] <;> with_reducible rfl))
  refine Tl.bind (f47c (k := k + 379) (wordsB l).length (by omega) (by simp; omega) S2) ?_
  rintro ⟨o2, h3⟩ S3
  simp only at S3
  repeat (first | (with_reducible apply qzV; simp (disch := omega) only [coreA, Int.reduceBEq, bzXd, lw] <;> with_reducible rfl) | (with_reducible first | apply qzT | apply qzF | apply qzG | apply qzH) | ((with_reducible first | apply qzB | apply qzC | apply qzD); simp (disch := omega) only [coreA, Int.reduceBEq, bzXd, lw] <;> with_reducible rfl))
  refine f131_l1 (k := k + 378) (by omega) (fun x hx => q2 x (wordsB_mem.1 hx)) (wordsB l).length (i := 0) (by omega) (by omega) (by simp; omega) S3 fun h4 o3 y1 y2 S4 hlen => ?_
  rw [List.drop_zero] at S4 hlen
  repeat (first | (with_reducible apply qzV; simp (disch := omega) only [coreA, Int.reduceBEq, bzXd, ll] <;> with_reducible rfl) | (with_reducible first | apply qzT | apply qzF | apply qzG | apply qzH) | ((with_reducible first | apply qzB | apply qzC | apply qzD); simp (disch := omega) only [coreA, Int.reduceBEq, bzXd, ll] <;> with_reducible rfl))
  refine f131_l2 (k := k + 396) (O := []) (A.grow (Grow.refl _)) q1 (by omega) (wordsB_rise l) (fun x hx => wordsB_mem.2 hx) (by omega) l.length (i := 0) (done := []) (by omega) (by omega) rfl (S4.nil 1) fun h5 av y3 y4 S5 => ?_
  rw [List.drop_zero, List.nil_append] at S5
  have Aw : Words h5 av (atW l) := S5.sl1 (f := u64v) 0 rfl
  have wid : eInv env (k + 399) (.func 98) #[] #[av] h5 = some (.int .i64 (widW l), h5) := Pk.f15c (k := k + 397) Aw.pk (by omega) ha64 (by omega)
  repeat (first | (with_reducible apply qzV; simp (disch := omega) only [coreA, Int.reduceBEq, bzXd, wid] <;> with_reducible rfl) | (with_reducible first | apply qzT | apply qzF | apply qzG | apply qzH) | ((with_reducible first | apply qzB | apply qzC | apply qzD); simp (disch := omega) only [coreA, Int.reduceBEq, bzXd, wid] <;> with_reducible rfl))
  refine Tl.bind (f49c (k := k + 98) Aw (by omega) (by omega) ha64 (widW l)) ?_
  rintro ⟨r, h6⟩ ⟨pv, er, g6, X6⟩
  simp only at er g6 X6
  subst er
  rw [hE]
  have eL : Pk.putL (atW l) (widW l) = putN (widW l) (atW l) := by
    unfold Pk.putL
    rw [if_pos hE]
    rfl
  rw [eL] at X6
  have S6 := S5.gain g6 X6
  have hW2 : widW l ≤ 64 := hW
  have hpn : (putN (widW l) (atW l)).length ≤ 100000 := by
    have := (putN_spec (widW l) (atW l)).2.1
    rw [this, hal]
    have : l.length * widW l ≤ 4096 * 64 := Nat.mul_le_mul q1 hW2
    omega
  have hwm : (wordsB l).length * 65546 ≤ 4096 * 65546 := Nat.mul_le_mul_right _ (by omega)
  repeat (first | (with_reducible apply qzV; simp (disch := omega) only [coreA, Int.reduceBEq, bzXd] <;> with_reducible rfl) | (with_reducible first | apply qzT | apply qzF | apply qzG | apply qzH) | ((with_reducible first | apply qzB | apply qzC | apply qzD); simp (disch := omega) only [coreA, Int.reduceBEq, bzXd] <;> with_reducible rfl))
  have S6 := S6.keepO (O' := [(pv, 1, u8rows (putN (widW l) (atW l))), (o3, 1, u8rows ([2] ++ pvarN l.length ++ pvarN (wordsB l).length ++ (wordsB l).flatMap textP))]) (by
    refine .cons_cons _ (.cons _ (.cons_cons _ (.cons _ .slnil)))) 
  refine Tl.push S6 1 rfl app33 (bs33 _ _) rfl rfl (by rw [u8rows_len]; omega) fun o4 h7 S7 => ?_
  repeat (first | (with_reducible apply qzV; simp (disch := omega) only [coreA, Int.reduceBEq, bzXd] <;> with_reducible rfl) | (with_reducible first | apply qzT | apply qzF | apply qzG | apply qzH) | ((with_reducible first | apply qzB | apply qzC | apply qzD); simp (disch := omega) only [coreA, Int.reduceBEq, bzXd] <;> with_reducible rfl))
  have S7 : Stt Tryz.prog h.n h h7 [] [(pv, 1, u8rows (putN (widW l) (atW l))), (o4, 1, u8rows ([2] ++ pvarN l.length ++ pvarN (wordsB l).length ++ (wordsB l).flatMap textP ++ [widW l]))] := by
    have e : u8rows ([2] ++ pvarN l.length ++ pvarN (wordsB l).length ++ (wordsB l).flatMap textP ++ [widW l]) = u8rows ([2] ++ pvarN l.length ++ pvarN (wordsB l).length ++ (wordsB l).flatMap textP) ++ [[.int .u8 (widW l : Int)]] := by
      unfold u8rows
      rw [List.map_append]
      rfl
    rw [e]; exact S7
  refine Tl.append' S7 1 rfl app33 (S7.slV 0 rfl) (one_u8rows _) (by rw [u8rows_len, u8rows_len]; simp at hlen ⊢; omega) fun o5 h8 S8 => ?_
  repeat (first | (with_reducible apply qzV; simp (disch := omega) only [coreA, Int.reduceBEq, bzXd] <;> with_reducible rfl) | (with_reducible first | apply qzT | apply qzF | apply qzG | apply qzH) | ((with_reducible first | apply qzB | apply qzC | apply qzD); simp (disch := omega) only [coreA, Int.reduceBEq, bzXd] <;> with_reducible rfl))
  refine ⟨_, rfl, _, rfl, ?_⟩
  have e : u8rows (dictT l) = u8rows ([2] ++ pvarN l.length ++ pvarN (wordsB l).length ++ (wordsB l).flatMap textP ++ [widW l]) ++ u8rows (putN (widW l) (atW l)) := by
    unfold dictT u8rows
    rw [List.map_append]
  rw [e]
  exact S8.keepO (.cons _ (.cons_cons _ .slnil))
end
end Go.Proofs.YtghelamfaaakcaaGreat.Sh
