/- The document's answer for packs: bits, Width, Size, Put, Get. -/
import Derived.Test.YtghelamfaaakcaaGreatSzPb
import Derived.Test.YtghelamfaaakcaaGreatEvC
set_option linter.unusedVariables false
set_option linter.unusedSimpArgs false
set_option maxRecDepth 100000
namespace Go.Proofs.YtghelamfaaakcaaGreat.Sh.Pk
open Go Go.RowKit Go.Proofs.Ev Go.Proofs.YtghelamfaaakcaaGreat.Sh
theorem bzRp : type_of% (And.intro @ld3 (And.intro @ld4 (And.intro @ld5 (And.intro @ld63 (And.intro @ld33 (And.intro @ld60 (And.intro (fun a h => conv_int (a := a) (h := h) u60 u5) (And.intro (fun a h => conv_int (a := a) (h := h) u5 u3) (And.intro (fun a h => conv_int (a := a) (h := h) u5 u60) (And.intro (fun a h => conv_int (a := a) (h := h) u3 u109) (And.intro (fun ox oy a b => bin_eql_bool (ox := ox) (oy := oy) (a := a) (b := b) u4) (And.intro (fun ox oy a b => bin_neq_bool (ox := ox) (oy := oy) (a := a) (b := b) u4) (And.intro @xor64u (And.intro @and64u (And.intro @or64u (And.intro @or8 (@and8))))))))))))))))) := And.intro @ld3 (And.intro @ld4 (And.intro @ld5 (And.intro @ld63 (And.intro @ld33 (And.intro @ld60 (And.intro (fun a h => conv_int (a := a) (h := h) u60 u5) (And.intro (fun a h => conv_int (a := a) (h := h) u5 u3) (And.intro (fun a h => conv_int (a := a) (h := h) u5 u60) (And.intro (fun a h => conv_int (a := a) (h := h) u3 u109) (And.intro (fun ox oy a b => bin_eql_bool (ox := ox) (oy := oy) (a := a) (b := b) u4) (And.intro (fun ox oy a b => bin_neq_bool (ox := ox) (oy := oy) (a := a) (b := b) u4) (And.intro @xor64u (And.intro @and64u (And.intro @or64u (And.intro @or8 (@and8))))))))))))))))

theorem ints_len (l : List Nat) : (ints l).length = l.length := by simp [ints]
theorem f27g {k : Nat} (n w : Int) (h : AH) : eInv env (k + 1) (.func 53) #[] #[.int .i64 n, .int .i64 w] h = some (.bool (mayB n w), h) := by
  have T : Tl (F53 (eInv env k) k (.int .i64 n) (.int .i64 w) h) fun r => r = (.bool (mayB n w), h) := by
    unfold F53 mayB
    cases e1 : decide (n ≥ 0)
    · repeat (with_reducible apply Tl.val; focus (simp only [coreA, Int.reduceBEq, decide_true, decide_false, bzRp, ex0, ex1, e1] <;> with_reducible rfl))
      exact ⟨_, rfl, rfl⟩
    cases e2 : decide (n ≤ 65536)
    · repeat (with_reducible apply Tl.val; focus (simp only [coreA, Int.reduceBEq, decide_true, decide_false, bzRp, ex0, ex1, e1, e2] <;> with_reducible rfl))
      exact ⟨_, rfl, rfl⟩
    cases e3 : decide (w ≥ 0)
    · repeat (with_reducible apply Tl.val; focus (simp only [coreA, Int.reduceBEq, decide_true, decide_false, bzRp, ex0, ex1, e1, e2, e3] <;> with_reducible rfl))
      exact ⟨_, rfl, rfl⟩
    repeat (with_reducible apply Tl.val; focus (simp only [coreA, Int.reduceBEq, decide_true, decide_false, bzRp, ex0, ex1, e1, e2, e3] <;> with_reducible rfl))
    exact ⟨_, rfl, rfl⟩
  obtain ⟨r, h1, h2⟩ := T
  rw [F53_call, h1, h2]
theorem f28_loop {β : Type} {k : Nat} {Q : β → Prop} {h : AH} {ke0 : Value → Value → Value → AH → Option β} (v : Nat) :
    ∀ {j c : Nat}, v < 18446744073709551616 → bl v < j → c + bl v ≤ 64 → (∀ y0 y, Tl (ke0 y0 (.int .i64 ((c + bl v : Nat) : Int)) y h) Q) → Tl (F102_llrr (eInv env k) k j (.int .u64 (v : Int)) (.int .i64 (c : Int)) h ke0) Q := by
  induction v using Nat.strongRecOn with
  | ind v ih =>
    intro j c hv hj hc hk
    obtain ⟨j, rfl⟩ : ∃ q, j = q + 1 := ⟨j - 1, by omega⟩
    simp only [F102_llrr]
    by_cases q : v = 0
    · subst q
      have e : decide (((0 : Nat) : Int) > 0) = false := by decide
      repeat (with_reducible apply Tl.val; focus (simp only [coreA, Int.reduceBEq, decide_true, decide_false, bzRp, ex0, ex1, e] <;> with_reducible rfl))
      with_reducible refine Tl.brF ?_
      have := hk (.int .u64 ((0 : Nat) : Int)) (.bool false)
      rw [bl_zero] at this
      exact this
    · have e : decide ((v : Int) > 0) = true := by simp; omega
      have hb := bl_pos (v := v) (by omega)
      have w1 : IntKind.i64.wrap ((c : Int) + 1) = ((c + 1 : Nat) : Int) := by rw [wrap_i64']; split <;> omega
      have e1 : min (1 : Int).toNat 64 = 1 := by decide
      have e2 : Int.fdiv (v : Int) (2 ^ 1) = ((v / 2 : Nat) : Int) := by rw [fdiv_pow _ (by decide)]; omega
      repeat (with_reducible apply Tl.val; focus (simp only [coreA, Int.reduceBEq, decide_true, decide_false, bzRp, ex0, ex1, e] <;> with_reducible rfl))
      with_reducible refine Tl.brT ?_
      repeat (with_reducible apply Tl.val; focus (simp only [coreA, Int.reduceBEq, decide_true, decide_false, bzRp, ex0, ex1, w1, shr64u (show (0 : Int) ≤ 1 by decide), e1, e2] <;> with_reducible rfl))
      refine ih (v / 2) (by omega) (by omega) (by omega) (by omega) fun y0 y => ?_
      rw [show c + 1 + bl (v / 2) = c + bl v by omega]
      exact hk y0 y
theorem f28c {k : Nat} (v : Nat) (hv : v < 18446744073709551616) (h : AH) : eInv env (k + 80) (.func 102) #[] #[.int .u64 (v : Int)] h = some (.int .i64 (bl v), h) := by
  have b64 : bl v ≤ 64 := bl_le 64 v (by rw [two64]; exact hv)
  have T : Tl (F102 (eInv env (k + 79)) (k + 79) (.int .u64 (v : Int)) h) fun r => r = (.int .i64 (bl v), h) := by
    unfold F102
    refine f28_loop (c := 0) v hv (by omega) (by omega) fun y0 y => ⟨_, rfl, ?_⟩
    simp
  obtain ⟨r, h1, h2⟩ := T
  rw [F102_call, h1, h2]
theorem f20_loop {β : Type} {k : Nat} {Q : β → Prop} {h : AH} {v : Value} {l : List Nat} (A : Words h v (ints l)) (hl : l.length ≤ 2 ^ 40) (hx : ∀ x ∈ l, x < 18446744073709551616) {ke0 : Value → Value → Value → Value → AH → Option β} (n : Nat) :
    ∀ {i j : Nat}, i + n = l.length → n < j → (∀ y4 y, Tl (ke0 v (.int .i64 (maxB l : Int)) y4 y h) Q) → Tl (F54_lrlrr (eInv env (k + 80)) (k + 80) j v (.int .i64 (maxB (l.take i) : Int)) (.int .i64 i) h ke0) Q := by
  have hlen : ∀ h', pLen Tryz.prog #[63] v h' = some (.int .i64 l.length) := fun h' => by have := A.len (h' := h'); rw [ints_len] at this; exact this
  induction n with
  | zero =>
    intro i j hi hj hk
    obtain ⟨j, rfl⟩ : ∃ q, j = q + 1 := ⟨j - 1, by omega⟩
    simp only [F54_lrlrr]
    have e : decide ((i : Int) < (l.length : Int)) = false := by simp; omega
    repeat (with_reducible apply Tl.val; focus (simp only [coreA, Int.reduceBEq, decide_true, decide_false, bzRp, ex0, ex1, hlen, e] <;> with_reducible rfl))
    with_reducible refine Tl.brF ?_
    rw [List.take_of_length_le (by omega)]
    exact hk _ _
  | succ n ih =>
    intro i j hi hj hk
    obtain ⟨j, rfl⟩ : ∃ q, j = q + 1 := ⟨j - 1, by omega⟩
    have hlt : i < l.length := by omega
    obtain ⟨c, hc⟩ : ∃ c, l[i]? = some c := ⟨_, List.getElem?_eq_getElem hlt⟩
    obtain ⟨b, o, hx1, h2⟩ := A.at_ (i := i) (c := (c : Int)) (by simp [ints, hc])
    have hcl := hx c (List.mem_of_getElem? hc)
    have bits := f28c (k := k) c hcl h
    simp only [F54_lrlrr]
    have e : decide ((i : Int) < (l.length : Int)) = true := by simp; omega
    have w1 : IntKind.i64.wrap ((i : Int) + 1) = ((i + 1 : Nat) : Int) := by rw [wrap_i64']; split <;> omega
    have mx : (if ((maxB (l.take i) : Nat) : Int) < (bl c : Int) then ((bl c : Nat) : Int) else (maxB (l.take i) : Int)) = (maxB (l.take (i + 1)) : Int) := by
      have ht : l.take (i + 1) = l.take i ++ [c] := by rw [List.take_add_one, hc]; rfl
      rw [ht]
      unfold maxB
      rw [List.foldl_append]
      simp only [List.foldl_cons, List.foldl_nil]
      split <;> omega
    repeat (with_reducible apply Tl.val; focus (simp only [coreA, Int.reduceBEq, decide_true, decide_false, bzRp, ex0, ex1, hlen, e] <;> with_reducible rfl))
    with_reducible refine Tl.brT ?_
    repeat (with_reducible apply Tl.val; focus (simp only [coreA, Int.reduceBEq, decide_true, decide_false, bzRp, ex0, ex1, hx1, h2, bits, bin_max, mx, w1] <;> with_reducible rfl))
    exact ih (by omega) (by omega) hk
theorem f20c {k : Nat} {h : AH} {v : Value} {l : List Nat} (A : Words h v (ints l)) (hl : l.length ≤ 2 ^ 40) (hx : ∀ x ∈ l, x < 18446744073709551616) (hk : l.length < k) : eInv env (k + 81) (.func 54) #[] #[v] h = some (.int .i64 (widthN l), h) := by
  have T : Tl (F54 (eInv env (k + 80)) (k + 80) v h) fun r => r = (.int .i64 (widthN l), h) := by
    unfold F54
    refine f20_loop A hl hx l.length (i := 0) (by omega) (by omega) fun y4 y => ⟨_, rfl, ?_⟩
    rw [maxB_width]
  obtain ⟨r, h1, h2⟩ := T
  rw [F54_call, h1, h2]
theorem f21g {k : Nat} (n w : Int) (h : AH) : eInv env (k + 2) (.func 55) #[] #[.int .i64 n, .int .i64 w] h = some (.int .i64 (sizeE n w), h) := by
  have T : Tl (F55 (eInv env (k + 1)) (k + 1) (.int .i64 n) (.int .i64 w) h) fun r => r = (.int .i64 (sizeE n w), h) := by
    unfold F55 sizeE
    have may := f27g (k := k) n w h
    cases q : mayB n w
    · rw [q] at may
      repeat (with_reducible apply Tl.val; focus (simp only [coreA, Int.reduceBEq, decide_true, decide_false, bzRp, ex0, ex1, may] <;> with_reducible rfl))
      with_reducible refine Tl.brT ?_
      exact ⟨_, rfl, rfl⟩
    obtain ⟨N, W, rfl, rfl, hN, hW⟩ := mayB_nat q
    rw [q] at may
    have hm : N * W ≤ 65536 * 64 := Nat.mul_le_mul hN hW
    have e1 : IntKind.i64.wrap ((N : Int) * (W : Int)) = ((N * W : Nat) : Int) := by
      have : (N : Int) * (W : Int) = ((N * W : Nat) : Int) := by simp
      rw [this, wrap_i64']; split <;> omega
    have e2 : IntKind.i64.wrap (((N * W : Nat) : Int) + 7) = ((N * W + 7 : Nat) : Int) := by rw [wrap_i64']; split <;> omega
    have e3 : IntKind.i64.wrap (((N * W + 7 : Nat) : Int).tdiv 8) = ((sizeN N W : Nat) : Int) := by
      have : ((N * W + 7 : Nat) : Int).tdiv 8 = ((sizeN N W : Nat) : Int) := by rw [Int.tdiv_eq_ediv_of_nonneg (by omega)]; unfold sizeN; omega
      rw [this, wrap_i64']; unfold sizeN; split <;> omega
    repeat (with_reducible apply Tl.val; focus (simp only [coreA, Int.reduceBEq, decide_true, decide_false, bzRp, ex0, ex1, may] <;> with_reducible rfl))
    with_reducible refine Tl.brF ?_
    repeat (with_reducible apply Tl.val; focus (simp only [coreA, Int.reduceBEq, decide_true, decide_false, bzRp, ex0, ex1, e1, e2, bin_quo (show (8 : Int) ≠ 0 by decide), e3] <;> with_reducible rfl))
    rw [if_pos rfl]
    simp only [Int.toNat_natCast]
    exact ⟨_, rfl, rfl⟩
  obtain ⟨r, h1, h2⟩ := T
  rw [F55_call, h1, h2]


theorem byN_set : ∀ (l : List Nat) (q x y : Nat), l[q]? = some x → byN (l.set q y) + x * 256 ^ q = byN l + y * 256 ^ q := by
  intro l
  induction l with
  | nil => intro q x y h; simp at h
  | cons a l ih =>
    intro q x y h
    cases q with
    | zero =>
      simp at h
      subst h
      simp only [List.set_cons_zero, byN_cons, Nat.pow_zero, Nat.mul_one]
      omega
    | succ q =>
      have := ih q x y (by simpa using h)
      simp only [List.set_cons_succ, byN_cons, Nat.pow_succ]
      rw [← Nat.mul_assoc, ← Nat.mul_assoc]
      omega
theorem two_split (p : Nat) : (2 : Nat) ^ p = 256 ^ (p / 8) * 2 ^ (p % 8) := by
  have h256 : (256 : Nat) = 2 ^ 8 := by decide
  rw [h256, ← Nat.pow_mul, ← Nat.pow_add]
  congr 1
  omega
theorem small_byte {bs : List Nat} {p x : Nat} (hb : ∀ x ∈ bs, x < 256) (hlt : byN bs < 2 ^ p) (hx : bs[p / 8]? = some x) : x < 2 ^ (p % 8) := by
  have hq : p / 8 < bs.length := (List.getElem?_eq_some_iff.1 hx).1
  have hd : bs.drop (p / 8) = x :: bs.drop (p / 8 + 1) := by
    rw [List.drop_eq_getElem_cons hq]
    rw [List.getElem?_eq_getElem hq] at hx
    cases hx; rfl
  rw [two_split p] at hlt
  have := (Nat.div_lt_iff_lt_mul (Nat.pow_pos (a := 256) (n := p / 8) (by decide))).2 (by rw [Nat.mul_comm]; exact hlt)
  rw [byN_drop _ bs hb, hd, byN_cons] at this
  omega
theorem set_bit {bs : List Nat} {p x : Nat} (hb : ∀ x ∈ bs, x < 256) (hlt : byN bs < 2 ^ p) (hx : bs[p / 8]? = some x) : byN (bs.set (p / 8) (x + 2 ^ (p % 8))) = byN bs + 2 ^ p ∧ (∀ y ∈ bs.set (p / 8) (x + 2 ^ (p % 8)), y < 256) := by
  have hs := small_byte hb hlt hx
  have h := byN_set bs (p / 8) x (x + 2 ^ (p % 8)) hx
  rw [Nat.add_mul] at h
  have e := two_split p
  rw [Nat.mul_comm (256 ^ (p / 8))] at e
  refine ⟨by omega, fun y hy => ?_⟩
  rcases List.mem_or_eq_of_mem_set hy with hy | rfl
  · exact hb y hy
  · have h8 : p % 8 < 8 := Nat.mod_lt _ (by decide)
    have : 2 ^ (p % 8) ≤ 2 ^ 7 := Nat.pow_le_pow_right (by decide) (by omega)
    have h7 : (2 : Nat) ^ 7 = 128 := by decide
    omega
theorem woN_snoc (w x : Nat) : ∀ l : List Nat, woN w (l ++ [x]) = woN w l + 2 ^ (l.length * w) * (x % 2 ^ w) := by
  intro l
  induction l with
  | nil => simp [woN]
  | cons y l ih =>
    rw [List.cons_append, woN_cons, ih, woN_cons, List.length_cons, Nat.succ_mul, Nat.pow_add, Nat.mul_add, ← Nat.mul_assoc, Nat.mul_comm (2 ^ w) (2 ^ (l.length * w))]
    omega
theorem bytes_set (l : List Nat) (i x : Nat) : ((ints l).map brow).set i [.int .u8 (x : Int)] = (ints (l.set i x)).map brow := by
  unfold ints
  rw [List.map_map, List.map_map, List.map_set]
  rfl
theorem mk25f (S : Nat) (hS : S ≤ 2 ^ 20) (h : AH) : pMakeSlice Tryz.prog 33 (.int .i64 S) (.int .i64 S) h = some (.slice (some ⟨h.n, 0, none⟩) S S, h.alloc (.cells (List.replicate S (.int .u8 0)) 5 true)) := by
  have el : elemT Tryz.prog 33 = some 5 := el33
  unfold pMakeSlice
  rw [el]
  simp only [sz5, app25.byt, ze5]
  rw [if_pos ⟨by omega, by omega, by omega, by omega, rfl, rfl⟩]
  have : (List.replicate (S : Int).toNat (Value.int IntKind.u8 0).cells.toList).flatten = List.replicate S (.int .u8 0) := by
    simp only [Int.toNat_natCast, Value.cells]
    induction S with
    | zero => rfl
    | succ S ih => rw [List.replicate_succ, List.flatten_cons, ih (by omega), List.replicate_succ]; rfl
  rw [this]
  simp
/-- The state within 'Put': the bytes so far. -/
structure RP (h0 h : AH) (out : Value) (b S : Nat) (bs : List Nat) : Prop where
  sta : Sta h0.n h0 h []
  row : SlX Tryz.prog h out 1 b ((ints bs).map brow)
  hb : h0.n ≤ b
  len : bs.length = S
  small : ∀ x ∈ bs, x < 256
theorem bit64 (x i : Nat) (hx : x < 18446744073709551616) (hi : i < 64) : Int.fdiv (x : Int) (2 ^ (min ((i : Int)).toNat 64)) = ((x / 2 ^ i : Nat) : Int) := by
  have e1 : min ((i : Int)).toNat 64 = i := by omega
  rw [e1, fdiv_pow _ (by exact_mod_cast Nat.zero_le _)]
  simp
theorem tmod2 (z : Nat) : ((z : Nat) : Int).tmod 2 = ((z % 2 : Nat) : Int) := by
  rw [Int.tmod_eq_emod_of_nonneg (Int.natCast_nonneg z)]; omega
theorem f17_in {β : Type} {k : Nat} {Q : β → Prop} {h0 : AH} {v out : Value} {l : List Nat} {b S i w c : Nat} (A : Words h0 v (ints l)) (hx : ∀ x ∈ l, x < 18446744073709551616) (hw : w ≤ 64) (hl : l.length ≤ 65536) (hS : S = sizeN l.length w) (hc : l[i]? = some c) {ke2 : Value → Value → Value → Value → Value → Value → AH → Option β} (m : Nat) :
    ∀ {kk j : Nat} {h : AH} {bs : List Nat}, kk + m = w → m < j → RP h0 h out b S bs → byN bs = woN w (l.take i) + 2 ^ (i * w) * (c % 2 ^ kk) →
      (∀ y8 y h' bs', RP h0 h' out b S bs' → byN bs' = woN w (l.take (i + 1)) → Tl (ke2 v (.int .i64 (w : Int)) out (.int .i64 (i : Int)) y8 y h') Q) →
      Tl (F34_lrllrllrlrrrr (eInv env k) k j v (.int .i64 (w : Int)) out (.int .i64 (i : Int)) (.int .i64 (kk : Int)) h ke2) Q := by
  have hi : i < l.length := (List.getElem?_eq_some_iff.1 hc).1
  have hcl := hx c (List.mem_of_getElem? hc)
  have hwlt := woN_lt w (l.take i)
  rw [List.length_take, Nat.min_eq_left (by omega)] at hwlt
  have hm : l.length * w ≤ 65536 * 64 := Nat.mul_le_mul hl hw
  have hiw : i * w + w ≤ l.length * w := by
    have : (i + 1) * w ≤ l.length * w := Nat.mul_le_mul_right _ hi
    rwa [Nat.succ_mul] at this
  induction m with
  | zero =>
    intro kk j h bs hk hj R hN hke
    obtain ⟨j, rfl⟩ : ∃ q, j = q + 1 := ⟨j - 1, by omega⟩
    simp only [F34_lrllrllrlrrrr]
    have e : decide ((kk : Int) < (w : Int)) = false := by simp; omega
    repeat (with_reducible apply Tl.val; focus (simp only [coreA, Int.reduceBEq, decide_true, decide_false, bzRp, ex0, ex1, e] <;> with_reducible rfl))
    with_reducible refine Tl.brF ?_
    refine hke _ _ _ bs R ?_
    have ht : l.take (i + 1) = l.take i ++ [c] := by rw [List.take_add_one, hc]; rfl
    rw [ht, woN_snoc, List.length_take, Nat.min_eq_left (by omega), hN, show kk = w by omega]
  | succ m ih =>
    intro kk j h bs hk hj R hN hke
    obtain ⟨j, rfl⟩ : ∃ q, j = q + 1 := ⟨j - 1, by omega⟩
    obtain ⟨b1, o1, hx1, h1⟩ := (A.grow R.sta.done).at_ (i := i) (c := (c : Int)) (by simp [ints, hc])
    simp only [F34_lrllrllrlrrrr]
    unfold F34_lrllrllrllrlrrrr
    have e : decide ((kk : Int) < (w : Int)) = true := by simp; omega
    have wk : IntKind.u64.wrap ((kk : Nat) : Int) = ((kk : Nat) : Int) := by rw [wrap_u64]; omega
    have sr : ∀ (y z : Operand), pBin Tryz.prog .shr 60 y z (.int .u64 (c : Int)) (.int .u64 (kk : Int)) = some (.int .u64 ((c / 2 ^ kk : Nat) : Int)) := fun y z => by
      rw [shr64u (show (0 : Int) ≤ (kk : Int) by omega), bit64 c kk hcl (by omega)]
    have rm := tmod2 (c / 2 ^ kk)
    have w1 : IntKind.i64.wrap ((kk : Int) + 1) = ((kk + 1 : Nat) : Int) := by rw [wrap_i64']; split <;> omega
    have hstep : c % 2 ^ (kk + 1) = c % 2 ^ kk + 2 ^ kk * (c / 2 ^ kk % 2) := by rw [Nat.pow_succ, Nat.mod_mul]
    repeat (with_reducible apply Tl.val; focus (simp only [coreA, Int.reduceBEq, decide_true, decide_false, bzRp, ex0, ex1, e] <;> with_reducible rfl))
    with_reducible refine Tl.brT ?_
    by_cases q : c / 2 ^ kk % 2 = 1
    · have e1 : (((c / 2 ^ kk % 2 : Nat) : Int) == 1) = true := by rw [q]; rfl
      have hk2 : c % 2 ^ kk < 2 ^ kk := Nat.mod_lt _ (Nat.two_pow_pos _)
      have hlt : byN bs < 2 ^ (i * w + kk) := by
        rw [hN, Nat.pow_add]
        have h2 : 2 ^ (i * w) * (c % 2 ^ kk + 1) ≤ 2 ^ (i * w) * 2 ^ kk := Nat.mul_le_mul_left _ hk2
        rw [Nat.mul_add, Nat.mul_one] at h2
        omega
      have hp : (i * w + kk) / 8 < bs.length := by rw [R.len, hS]; unfold sizeN; omega
      obtain ⟨x, hxx⟩ : ∃ x, bs[(i * w + kk) / 8]? = some x := ⟨_, List.getElem?_eq_getElem hp⟩
      have hx256 := R.small x (List.mem_of_getElem? hxx)
      have hxs := small_byte R.small hlt hxx
      obtain ⟨sb1, sb2⟩ := set_bit R.small hlt hxx
      have RB : Bytes h out (ints bs) := R.row.slV
      obtain ⟨b2, o2, hx2, h2⟩ := RB.at_ (i := (i * w + kk) / 8) (c := (x : Int)) (by simp [ints, hxx])
      have wm : IntKind.i64.wrap ((i : Int) * (w : Int)) = ((i * w : Nat) : Int) := by
        have : (i : Int) * (w : Int) = ((i * w : Nat) : Int) := by simp
        rw [this, wrap_i64']; split <;> omega
      have wa : IntKind.i64.wrap (((i * w : Nat) : Int) + (kk : Int)) = ((i * w + kk : Nat) : Int) := by rw [wrap_i64']; split <;> omega
      have wq : IntKind.i64.wrap (((i * w + kk : Nat) : Int).tdiv 8) = (((i * w + kk) / 8 : Nat) : Int) := by
        have : ((i * w + kk : Nat) : Int).tdiv 8 = (((i * w + kk) / 8 : Nat) : Int) := by rw [Int.tdiv_eq_ediv_of_nonneg (by omega)]; omega
        rw [this, wrap_i64']; split <;> omega
      have wr : ((i * w + kk : Nat) : Int).tmod 8 = (((i * w + kk) % 8 : Nat) : Int) := by rw [Int.tmod_eq_emod_of_nonneg (by omega)]; omega
      have wc : IntKind.u64.wrap (((i * w + kk) % 8 : Nat) : Int) = (((i * w + kk) % 8 : Nat) : Int) := by rw [wrap_u64]; omega
      have h8 : (i * w + kk) % 8 < 8 := Nat.mod_lt _ (by decide)
      have p7 : 2 ^ ((i * w + kk) % 8) ≤ 2 ^ 7 := Nat.pow_le_pow_right (by decide) (by omega)
      have h7 : (2 : Nat) ^ 7 = 128 := by decide
      have sl : ∀ (y z : Operand), pBin Tryz.prog .shl 5 y z (.int .u8 1) (.int .u64 (((i * w + kk) % 8 : Nat) : Int)) = some (.int .u8 ((2 ^ ((i * w + kk) % 8) : Nat) : Int)) := fun y z => by
        rw [shl8 (by omega)]
        have e1 : min ((((i * w + kk) % 8 : Nat) : Int)).toNat 8 = (i * w + kk) % 8 := by omega
        have e2 : (1 : Int) * 2 ^ ((i * w + kk) % 8) = ((2 ^ ((i * w + kk) % 8) : Nat) : Int) := by simp
        rw [e1, e2, wrap_u8]
        congr 3
        omega
      have o8 := or8_nat x (2 ^ ((i * w + kk) % 8)) (by omega) (by omega)
      have od := or_disj x 1 ((i * w + kk) % 8) hxs
      rw [Nat.one_mul] at od
      rw [od] at o8
      have hix : pIndexAddr Tryz.prog 33 out (.int .i64 (((i * w + kk) / 8 : Nat) : Int)) = some (.pointer (some ⟨b, (i * w + kk) / 8 * 1, none⟩)) :=
        R.row.idx (by rw [List.length_map, ints_len]; exact hp) u33 sz5
      have h2' : h.cell b ((i * w + kk) / 8 * 1) = some (.int .u8 (x : Int)) := by
        rw [hix] at hx2
        simp only [Option.some.injEq, Value.pointer.injEq, Addr.mk.injEq] at hx2
        obtain ⟨rfl, rfl, _⟩ := hx2
        exact h2
      repeat (with_reducible apply Tl.val; focus (simp only [coreA, Int.reduceBEq, decide_true, decide_false, bzRp, ex0, ex1, hx1, h1, wk, sr, bin_rem (show (2 : Int) ≠ 0 by decide), rm, e1] <;> with_reducible rfl))
      with_reducible refine Tl.brT ?_
      repeat (with_reducible apply Tl.val; focus (simp only [coreA, Int.reduceBEq, decide_true, decide_false, bzRp, ex0, ex1, wm, wa, bin_quo (show (8 : Int) ≠ 0 by decide), wq, hix, h2', bin_rem (show (8 : Int) ≠ 0 by decide), wr, wc, sl, o8] <;> with_reducible rfl))
      refine Tl.setRow R.sta R.row R.hb (by simp) (by rw [List.length_map, ints_len]; exact hp) rfl sz5 rfl fun h' S' X' _ => ?_
      repeat (with_reducible apply Tl.val; focus (simp only [coreA, Int.reduceBEq, decide_true, decide_false, bzRp, ex0, ex1, w1] <;> with_reducible rfl))
      refine ih (bs := bs.set ((i * w + kk) / 8) (x + 2 ^ ((i * w + kk) % 8))) (by omega) (by omega) ⟨S', ?_, R.hb, by rw [List.length_set]; exact R.len, sb2⟩ ?_ hke
      · rw [← bytes_set]
        exact X'
      · rw [sb1, hN, hstep, q, Nat.mul_one, Nat.mul_add, Nat.pow_add]
        omega
    · have q0 : c / 2 ^ kk % 2 = 0 := by have : c / 2 ^ kk % 2 < 2 := Nat.mod_lt _ (by decide); omega
      have e1 : (((c / 2 ^ kk % 2 : Nat) : Int) == 1) = false := by rw [q0]; rfl
      repeat (with_reducible apply Tl.val; focus (simp only [coreA, Int.reduceBEq, decide_true, decide_false, bzRp, ex0, ex1, hx1, h1, wk, sr, bin_rem (show (2 : Int) ≠ 0 by decide), rm, e1] <;> with_reducible rfl))
      with_reducible refine Tl.brF ?_
      repeat (with_reducible apply Tl.val; focus (simp only [coreA, Int.reduceBEq, decide_true, decide_false, bzRp, ex0, ex1, w1] <;> with_reducible rfl))
      refine ih (by omega) (by omega) R ?_ hke
      rw [hN, hstep, q0, Nat.mul_zero, Nat.add_zero]
theorem f17_out {β : Type} {k : Nat} {Q : β → Prop} {h0 : AH} {v out : Value} {l : List Nat} {b S w : Nat} (A : Words h0 v (ints l)) (hx : ∀ x ∈ l, x < 18446744073709551616) (hw : w ≤ 64) (hl : l.length ≤ 65536) (hS : S = sizeN l.length w) (hk0 : 65 < k) {ke0 : Value → Value → Value → Value → Value → AH → Option β} (n : Nat) :
    ∀ {i j : Nat} {h : AH} {bs : List Nat}, i + n = l.length → n < j → RP h0 h out b S bs → byN bs = woN w (l.take i) →
      (∀ y7 y h' bs', RP h0 h' out b S bs' → byN bs' = woN w l → Tl (ke0 v (.int .i64 (w : Int)) out y7 y h') Q) →
      Tl (F34_lrlrrrr (eInv env k) k j v (.int .i64 (w : Int)) out (.int .i64 (i : Int)) h ke0) Q := by
  have hlen : ∀ h', pLen Tryz.prog #[63] v h' = some (.int .i64 l.length) := fun h' => by have := A.len (h' := h'); rw [ints_len] at this; exact this
  induction n with
  | zero =>
    intro i j h bs hi hj R hN hke
    obtain ⟨j, rfl⟩ : ∃ q, j = q + 1 := ⟨j - 1, by omega⟩
    simp only [F34_lrlrrrr]
    have e : decide ((i : Int) < (l.length : Int)) = false := by simp; omega
    repeat (with_reducible apply Tl.val; focus (simp only [coreA, Int.reduceBEq, decide_true, decide_false, bzRp, ex0, ex1, hlen, e] <;> with_reducible rfl))
    with_reducible refine Tl.brF ?_
    rw [List.take_of_length_le (by omega)] at hN
    exact hke _ _ _ bs R hN
  | succ n ih =>
    intro i j h bs hi hj R hN hke
    obtain ⟨j, rfl⟩ : ∃ q, j = q + 1 := ⟨j - 1, by omega⟩
    have hlt : i < l.length := by omega
    obtain ⟨c, hc⟩ : ∃ c, l[i]? = some c := ⟨_, List.getElem?_eq_getElem hlt⟩
    simp only [F34_lrlrrrr]
    have e : decide ((i : Int) < (l.length : Int)) = true := by simp; omega
    have w1 : IntKind.i64.wrap ((i : Int) + 1) = ((i + 1 : Nat) : Int) := by rw [wrap_i64']; split <;> omega
    repeat (with_reducible apply Tl.val; focus (simp only [coreA, Int.reduceBEq, decide_true, decide_false, bzRp, ex0, ex1, hlen, e] <;> with_reducible rfl))
    with_reducible refine Tl.brT ?_
    refine f17_in A hx hw hl hS hc w (kk := 0) (by omega) (by omega) R (by rw [hN, Nat.pow_zero, Nat.mod_one, Nat.mul_zero, Nat.add_zero]) fun y8 y h' bs' R' hN' => ?_
    repeat (with_reducible apply Tl.val; focus (simp only [coreA, Int.reduceBEq, decide_true, decide_false, bzRp, ex0, ex1, w1] <;> with_reducible rfl))
    exact ih (by omega) (by omega) R' hN' hke
theorem byN_zero : ∀ n : Nat, byN (List.replicate n 0) = 0 := by
  intro n
  induction n with
  | zero => rfl
  | succ n ih => rw [List.replicate_succ, byN_cons, ih]
theorem f17c {k : Nat} {h : AH} {v : Value} {l : List Nat} (A : Words h v (ints l)) (hl : l.length ≤ 65536) (hlk : l.length < k) (hx : ∀ x ∈ l, x < 18446744073709551616) (n : Int) :
    Tl (eInv env (k + 101) (.func 34) #[] #[v, .int .i64 n] h) fun r => ∃ o, r.1 = .tuple #[o, .int .i64 (putE l n)] ∧ Grow h r.2 ∧ OwnB Tryz.prog h.n r.2 o 1 ((ints (putL l n)).map brow) := by
  rw [F34_call]
  unfold F34
  have hv : ∀ h', pLen Tryz.prog #[63] v h' = some (.int .i64 l.length) := fun h' => by have := A.len (h' := h'); rw [ints_len] at this; exact this
  have may := f27g (k := k + 99) (l.length : Int) n h
  have wid := f20c (k := k + 19) A (by omega) hx (by omega)
  by_cases q : mayB l.length n = true
  · obtain ⟨N, w, e0, rfl, hN, hW⟩ := mayB_nat q
    rw [q] at may
    repeat (with_reducible apply Tl.val; focus (simp only [coreA, Int.reduceBEq, decide_true, decide_false, bzRp, ex0, ex1, hv, may] <;> with_reducible rfl))
    with_reducible refine Tl.brF ?_
    by_cases q1 : widthN l > w
    · have e1 : decide ((widthN l : Int) > (w : Int)) = true := by simp; omega
      repeat (with_reducible apply Tl.val; focus (simp only [coreA, Int.reduceBEq, decide_true, decide_false, bzRp, ex0, ex1, wid, e1] <;> with_reducible rfl))
      with_reducible refine Tl.brT ?_
      have pe : putE l (w : Int) = 3 := by
        unfold putE
        rw [if_neg (by simp [q]), if_pos (by simpa using q1)]
      refine ⟨_, rfl, .slice none 0 0, by rw [pe], Grow.refl _, ?_⟩
      unfold putL
      rw [pe]
      exact .inl ⟨rfl, rfl⟩
    · have e1 : decide ((widthN l : Int) > (w : Int)) = false := by simp; omega
      have siz := f21g (k := k + 98) (l.length : Int) (w : Int) h
      have hsz : sizeE (l.length : Int) (w : Int) = (sizeN l.length w : Int) := by
        unfold sizeE
        rw [if_pos q]
        simp
      rw [hsz] at siz
      have hm : l.length * w ≤ 65536 * 64 := Nat.mul_le_mul hl hW
      have hS : sizeN l.length w ≤ 2 ^ 20 := by unfold sizeN; omega
      repeat (with_reducible apply Tl.val; focus (simp only [coreA, Int.reduceBEq, decide_true, decide_false, bzRp, ex0, ex1, wid, e1] <;> with_reducible rfl))
      with_reducible refine Tl.brF ?_
      repeat (with_reducible apply Tl.val; focus (simp only [coreA, Int.reduceBEq, decide_true, decide_false, bzRp, ex0, ex1, hv, siz] <;> with_reducible rfl))
      refine Tl.val (mk25f (sizeN l.length w) hS h) ?_
      have hg := AH.get_alloc_new h (.cells (List.replicate (sizeN l.length w) (Value.int IntKind.u8 0)) 5 true)
      have hrep : List.replicate (sizeN l.length w) (Value.int IntKind.u8 0) = u8l (ints (List.replicate (sizeN l.length w) 0)) := by simp [u8l, ints]
      rw [hrep] at hg
      have hX := slX_of hg
      have hle : (ints (List.replicate (sizeN l.length w) 0)).length = sizeN l.length w := by rw [ints_len, List.length_replicate]
      rw [hle] at hX
      have R0 : RP h (h.alloc (.cells (List.replicate (sizeN l.length w) (Value.int IntKind.u8 0)) 5 true)) (.slice (some ⟨h.n, 0, none⟩) (sizeN l.length w) (sizeN l.length w)) h.n (sizeN l.length w) (List.replicate (sizeN l.length w) 0) :=
        ⟨((Sta.init h).alloc _).drop, by rw [hrep]; exact hX, Nat.le_refl _, List.length_replicate, fun x hx => by
          have := (List.mem_replicate.1 hx).2
          omega⟩
      refine f17_out (k := k + 100) A hx hW hl rfl (by omega) l.length (i := 0) (by omega) (by omega) R0 (by rw [byN_zero]; rfl) fun y7 y h' bs' R' hN' => ?_
      have pe : putE l (w : Int) = 0 := putE_of hl hW (by omega)
      have pl : putL l (w : Int) = bs' := by
        unfold putL
        rw [if_pos pe]
        simp only [Int.toNat_natCast]
        obtain ⟨s1, s2, s3⟩ := putN_spec w l
        exact byN_inj _ _ s3 R'.small (by rw [s2, R'.len]; rfl) (by rw [s1, hN'])
      refine ⟨_, rfl, _, by rw [pe], R'.sta.done, ?_⟩
      rw [pl]
      exact .inr ⟨h.n, Nat.le_refl _, R'.row⟩
  · have q' : mayB l.length n = false := by simpa using q
    rw [q'] at may
    repeat (with_reducible apply Tl.val; focus (simp only [coreA, Int.reduceBEq, decide_true, decide_false, bzRp, ex0, ex1, hv, may] <;> with_reducible rfl))
    with_reducible refine Tl.brT ?_
    have pe : putE l n = 2 := by unfold putE; rw [if_pos q']
    refine ⟨_, rfl, .slice none 0 0, by rw [pe], Grow.refl _, ?_⟩
    unfold putL
    rw [pe]
    exact .inl ⟨rfl, rfl⟩


/-- A bit of the bytes, as the code reads it. -/
structure BitAt (h : AH) (v : Value) (bs : List Nat) (p : Nat) : Prop where
  wq : IntKind.i64.wrap (((p : Nat) : Int).tdiv 8) = ((p / 8 : Nat) : Int)
  wr : ((p : Nat) : Int).tmod 8 = ((p % 8 : Nat) : Int)
  wc : IntKind.u64.wrap ((p % 8 : Nat) : Int) = ((p % 8 : Nat) : Int)
  at_ : ∃ (b o x : Nat), pIndexAddr Tryz.prog 33 v (.int .i64 ((p / 8 : Nat) : Int)) = some (.pointer (some ⟨b, o, none⟩)) ∧ h.cell b o = some (.int .u8 (x : Int)) ∧ (∀ (y z : Operand), pBin Tryz.prog .shr 5 y z (.int .u8 (x : Int)) (.int .u64 ((p % 8 : Nat) : Int)) = some (.int .u8 ((x / 2 ^ (p % 8) : Nat) : Int))) ∧
    ((x / 2 ^ (p % 8) : Nat) : Int).tmod 2 = ((byN bs / 2 ^ p % 2 : Nat) : Int)
end Go.Proofs.YtghelamfaaakcaaGreat.Sh.Pk
