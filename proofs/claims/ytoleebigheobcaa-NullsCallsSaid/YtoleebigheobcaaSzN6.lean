/- What 'Get' of the nulls' package comes to: what it calls. -/
import Derived.Test.YtoleebigheobcaaSzN5
set_option linter.unusedVariables false
set_option linter.unusedSimpArgs false
set_option maxRecDepth 100000
namespace Go.Proofs.Ytoleebigheobcaa.Sh
open Go Go.RowKit Go.Proofs.Ev
theorem base_N6 : type_of% (And.intro @ld3 (And.intro @ld4 (And.intro @ld5 (And.intro @ld22 (And.intro @ld25 (And.intro @ld32 (And.intro @ld49 (And.intro @ld52 (And.intro (fun a h => conv_int (a := a) (h := h) u3 u49) (And.intro (fun a h => conv_int (a := a) (h := h) u49 u3) (And.intro (fun a h => conv_int (a := a) (h := h) u3 u68) (And.intro (fun a h => conv_int (a := a) (h := h) u68 u3) (And.intro (fun ox oy a b => bin_eql_bool (ox := ox) (oy := oy) (a := a) (b := b) u4) (And.intro (fun ox oy a b => bin_neq_bool (ox := ox) (oy := oy) (a := a) (b := b) u4) (And.intro @ex2_0 (@ex2_1)))))))))))))))) := And.intro @ld3 (And.intro @ld4 (And.intro @ld5 (And.intro @ld22 (And.intro @ld25 (And.intro @ld32 (And.intro @ld49 (And.intro @ld52 (And.intro (fun a h => conv_int (a := a) (h := h) u3 u49) (And.intro (fun a h => conv_int (a := a) (h := h) u49 u3) (And.intro (fun a h => conv_int (a := a) (h := h) u3 u68) (And.intro (fun a h => conv_int (a := a) (h := h) u68 u3) (And.intro (fun ox oy a b => bin_eql_bool (ox := ox) (oy := oy) (a := a) (b := b) u4) (And.intro (fun ox oy a b => bin_neq_bool (ox := ox) (oy := oy) (a := a) (b := b) u4) (And.intro @ex2_0 (@ex2_1)))))))))))))))
theorem andm (a : Nat) (ha : a < 4294967296) : ∀ t x y, pBin Try.prog Go.BinOp.and t x y (.int .u64 (a : Int)) (.int .u64 4294967295) = some (.int .u64 (a : Int)) := fun t x y => by
  rw [bin_and]
  have e : IntKind.u64.wrap (BitVec.ofInt 64 (a : Int) &&& BitVec.ofInt 64 4294967295).toNat = (a : Int) := by
    rw [BitVec.toNat_and, ofInt_toNat _ (by omega) (by omega), ofInt_toNat _ (by omega) (by omega)]
    have : a &&& 4294967295 = a := by
      have := Nat.and_two_pow_sub_one_eq_mod a 32
      have h2 : (2 : Nat) ^ 32 - 1 = 4294967295 := by decide
      have h3 : (2 : Nat) ^ 32 = 4294967296 := by decide
      rw [h2, h3] at this
      omega
    have h4 : (4294967295 : Int).toNat = 4294967295 := rfl
    rw [Int.toNat_natCast, h4, this, wrap_u64]
    omega
  exact congrArg some (congrArg _ e)
theorem shr32 (a : Nat) (ha : a < 4294967296) : ∀ t x y, pBin Try.prog Go.BinOp.shr t x y (.int .u64 (a : Int)) (.int .u64 32) = some (.int .u64 0) := fun t x y => by
  rw [shr_nn (by decide)]
  have e : (a : Int).fdiv (2 ^ (min (32 : Int).toNat IntKind.u64.bits)) = 0 := by
    have h2 : min (32 : Int).toNat IntKind.u64.bits = 32 := by decide
    rw [h2, Int.fdiv_eq_ediv_of_nonneg _ (by decide)]
    have : (2 : Int) ^ 32 = 4294967296 := by decide
    rw [this]; omega
  rw [e]
theorem f67c {k : Nat} (n : Nat) (hn : n ≤ 100000) (h : AH) : eInv env (k + 1) (.func 67) #[] #[.int .u64 1, .int .u64 (n : Int)] h = some (.tuple #[.int .u64 0, .int .u64 (n : Int)], h) := by
  have T : Tl (F67 (eInv env k) k (.int .u64 1) (.int .u64 (n : Int)) h) fun r => r = (.tuple #[.int .u64 0, .int .u64 (n : Int)], h) := by
    unfold F67
    have a1 := andm 1 (by omega)
    have s1 := shr32 1 (by omega)
    have a0 := andm 0 (by omega)
    have s0 := shr32 0 (by omega)
    have an := andm n (by omega)
    have sn := shr32 n (by omega)
    have e1 : ((1 : Nat) : Int) = 1 := rfl
    have e0 : ((0 : Nat) : Int) = 0 := rfl
    rw [e1] at a1 s1
    rw [e0] at a0 s0
    repeat (first | (with_reducible apply Tl.val; focus (simp (disch := omega) only [coreA, Int.reduceBEq, base_N6, a1, s1, an, sn, a0, s0, Int.one_mul, Int.zero_mul, Int.mul_zero, Int.zero_add, Int.add_zero] <;> with_reducible rfl)) | (with_reducible first | refine Tl.brT ?_ | refine Tl.brF ?_ | refine Tl.gd_on ?_ | refine Tl.gd3_on ?_) | ((with_reducible first | apply Tl.brC | apply Tl.gdC | apply Tl.gd3C); focus (simp (disch := omega) only [coreA, Int.reduceBEq, base_N6, a1, s1, an, sn, a0, s0, Int.one_mul, Int.zero_mul, Int.mul_zero, Int.zero_add, Int.add_zero] <;> with_reducible rfl)))
    exact ⟨_, rfl, rfl⟩
  obtain ⟨r, h1, h2⟩ := T
  rw [F67_call, h1, h2]
theorem f56c {k : Nat} (n : Nat) (hn : n ≤ 100000) (h : AH) : eInv env (k + 2) (.func 56) #[] #[.int .u64 1, .int .u64 (n : Int)] h = some (.tuple #[.int .u64 0, .int .u64 (n : Int)], h) := by
  have T : Tl (F56 (eInv env (k + 1)) (k + 1) (.int .u64 1) (.int .u64 (n : Int)) h) fun r => r = (.tuple #[.int .u64 0, .int .u64 (n : Int)], h) := by
    unfold F56
    have a1 := f67c (k := k) n hn h
    repeat (first | (with_reducible apply Tl.val; focus (simp (disch := omega) only [coreA, Int.reduceBEq, base_N6, a1] <;> with_reducible rfl)) | (with_reducible first | refine Tl.brT ?_ | refine Tl.brF ?_ | refine Tl.gd_on ?_ | refine Tl.gd3_on ?_) | ((with_reducible first | apply Tl.brC | apply Tl.gdC | apply Tl.gd3C); focus (simp (disch := omega) only [coreA, Int.reduceBEq, base_N6, a1] <;> with_reducible rfl)))
    exact ⟨_, rfl, rfl⟩
  obtain ⟨r, h1, h2⟩ := T
  rw [F56_call, h1, h2]
/-! ### 'slices.Repeat' of one truth -/
def fillC (x : Bool) (p m : Nat) : List Value := (List.replicate p x ++ List.replicate (m - p) false).map bv
theorem fillC_len (x : Bool) (p m : Nat) (hp : p ≤ m) : (fillC x p m).length = m := by simp [fillC]; omega
theorem fillC_splice (x : Bool) (p q m : Nat) (h : p + q ≤ m) : splice (fillC x p m) p ((List.replicate q x).map bv) = fillC x (p + q) m := by
  unfold splice fillC
  rw [List.map_append, List.take_left' (by simp), List.length_map, List.length_replicate, ← List.drop_drop, List.drop_left' (by simp), ← List.map_drop, List.drop_replicate, ← List.map_append, ← List.map_append, List.replicate_append_replicate]
  congr 3
  omega
theorem sl22 {h : AH} {b n m lo : Nat} {cs : List Value} (hg : h.get b = some (.cells cs 4 true)) (hlo : lo ≤ n) : pSlice Try.prog 22 (.slice (some ⟨b, 0, none⟩) n n) (some (.int .i64 lo)) none none h = some (.slice (some ⟨b, lo, none⟩) (n - lo) (n - lo)) ∧
    pSlice Try.prog 22 (.slice (some ⟨b, 0, none⟩) n n) none (some (.int .i64 lo)) none h = some (.slice (some ⟨b, 0, none⟩) lo n) := by
  have hm : ∀ d : Int, intOr d (some (.int .i64 (lo : Int))) = some (lo : Int) := fun d => rfl
  have hm2 : ∀ d : Int, intOr d none = some d := fun d => rfl
  have hz : szOk Try.prog (some ⟨b, 0, none⟩) 1 h = true := szOk_of hg sz4
  unfold pSlice
  simp only [el22, Option.bind_some, sz4, hm, hm2]
  rw [if_pos ⟨by omega, by omega, by omega, by omega, by simp, by simp [hz]⟩, if_pos ⟨by omega, by omega, by omega, by omega, by simp, by simp⟩]
  constructor
  · simp only [Option.map_some, Int.toNat_natCast, Option.some.injEq, Value.slice.injEq, Addr.mk.injEq, true_and, and_true]
    omega
  · simp
theorem f32_loop {β : Type} {k : Nat} {Q : β → Prop} {n0 : Nat} {h0 : AH} {L : List (Nat × AO)} {O : List OS} {x : Bool} {m b : Nat} (hm : m ≤ 100000) {ke0 : Value → Value → Value → AH → Option β} (n : Nat) :
    ∀ {j p : Nat} {h : AH}, p + n = m → n < j → (1 ≤ p ∨ m = 0) → Stt Try.prog n0 h0 h ((b, .cells (fillC x p m) 4 true) :: L) O →
      (∀ h' y y', Stt Try.prog n0 h0 h' ((b, .cells (fillC x m m) 4 true) :: L) O → Tl (ke0 (.slice (some ⟨b, 0, none⟩) m m) y y' h') Q) →
      Tl (F32_llrrrrrr (eInv env k) k j (.slice (some ⟨b, 0, none⟩) m m) (.int .i64 p) h ke0) Q := by
  induction n using Nat.strongRecOn with
  | _ n ih =>
    intro j p h hp hj h1 S hk
    obtain ⟨j, rfl⟩ : ∃ q, j = q + 1 := ⟨j - 1, by omega⟩
    have hlen : ∀ h', pLen Try.prog #[22] (.slice (some ⟨b, 0, none⟩) m m) h' = some (.int .i64 m) := fun h' => len_slice u22
    simp only [F32_llrrrrrr]
    by_cases hn : n = 0
    · repeat (first | (with_reducible apply Tl.val; focus (simp (disch := omega) only [coreA, Int.reduceBEq, base_N6, hlen] <;> with_reducible rfl)) | (with_reducible first | refine Tl.brT ?_ | refine Tl.brF ?_ | refine Tl.gd_on ?_ | refine Tl.gd3_on ?_) | ((with_reducible first | apply Tl.brC | apply Tl.gdC | apply Tl.gd3C); focus (simp (disch := omega) only [coreA, Int.reduceBEq, base_N6, hlen] <;> with_reducible rfl)))
      have : p = m := by omega
      subst this
      exact hk _ _ _ S
    · have hg := S.sta.mem.at_ (i := 0) rfl
      simp only at hg
      obtain ⟨s1, s2⟩ := sl22 (n := m) (m := m) (lo := p) hg (by omega)
      repeat (first | (with_reducible apply Tl.val; focus (simp (disch := omega) only [coreA, Int.reduceBEq, base_N6, hlen, s1, s2] <;> with_reducible rfl)) | (with_reducible first | refine Tl.brT ?_ | refine Tl.brF ?_ | refine Tl.gd_on ?_ | refine Tl.gd3_on ?_) | ((with_reducible first | apply Tl.brC | apply Tl.gdC | apply Tl.gd3C); focus (simp (disch := omega) only [coreA, Int.reduceBEq, base_N6, hlen, s1, s2] <;> with_reducible rfl)))
      have hq : min p (m - p) ≤ m - p := Nat.min_le_right ..
      have hq2 : min p (m - p) ≤ p := Nat.min_le_left ..
      have hc : cellsOf Try.prog 1 (min p (m - p)) (.slice (some ⟨b, 0, none⟩) p m) h = some ((List.replicate (min p (m - p)) x).map bv) := by
        unfold cellsOf
        simp only [Nat.mul_one]
        rw [if_neg (by omega), if_pos hq2]
        unfold AH.row
        rw [hg]
        simp only
        rw [if_pos (by rw [fillC_len _ _ _ (by omega)]; omega), List.drop_zero]
        unfold fillC
        rw [← List.map_take, List.take_append_of_le_length (by simp; omega), List.take_replicate, Nat.min_eq_left hq2]
      refine Tl.copy' S 0 rfl el22 sz4 rfl hc (by simp [bv, oneCell]) (by rw [fillC_len _ _ _ (by omega)]; simp; omega) fun h' S' => ?_
      rw [fillC_splice x p _ m (by omega)] at S'
      have e : (p : Int) + ((min p (m - p) : Nat) : Int) = ((p + min p (m - p) : Nat) : Int) := by omega
      repeat (first | (with_reducible apply Tl.val; focus (simp (disch := omega) only [coreA, Int.reduceBEq, base_N6] <;> with_reducible rfl)) | (with_reducible first | refine Tl.brT ?_ | refine Tl.brF ?_ | refine Tl.gd_on ?_ | refine Tl.gd3_on ?_) | ((with_reducible first | apply Tl.brC | apply Tl.gdC | apply Tl.gd3C); focus (simp (disch := omega) only [coreA, Int.reduceBEq, base_N6] <;> with_reducible rfl)))
      rw [e]
      exact ih (n - min p (m - p)) (by omega) (by omega) (by omega) (by omega) S' hk
theorem f32c {k : Nat} {h : AH} {v : Value} {x : Bool} {n : Nat} (S : Bools h v [x]) (hn : n ≤ 100000) (hk : n < k) :
    Tl (eInv env (k + 3) (.func 32) #[] #[v, .int .i64 (n : Int)] h) fun r => OwnB Try.prog h.n r.2 r.1 1 (brows (List.replicate n x)) ∧ Grow h r.2 := by
  rw [F32_call]
  unfold F32
  have hlen : ∀ h', pLen Try.prog #[22] v h' = some (.int .i64 1) := fun h' => Sl1.len S u22
  have ml := f56c (k := k) n (by omega) h
  repeat (first | (with_reducible apply Tl.val; focus (simp (disch := omega) only [coreA, Int.reduceBEq, base_N6] <;> with_reducible rfl)) | (with_reducible first | refine Tl.brT ?_ | refine Tl.brF ?_ | refine Tl.gd_on ?_ | refine Tl.gd3_on ?_) | ((with_reducible first | apply Tl.brC | apply Tl.gdC | apply Tl.gd3C); focus (simp (disch := omega) only [coreA, Int.reduceBEq, base_N6] <;> with_reducible rfl)))
  unfold F32_rlr
  repeat (first | (with_reducible apply Tl.val; focus (simp (disch := omega) only [coreA, Int.reduceBEq, base_N6, hlen, ml] <;> with_reducible rfl)) | (with_reducible first | refine Tl.brT ?_ | refine Tl.brF ?_ | refine Tl.gd_on ?_ | refine Tl.gd3_on ?_) | ((with_reducible first | apply Tl.brC | apply Tl.gdC | apply Tl.gd3C); focus (simp (disch := omega) only [coreA, Int.reduceBEq, base_N6, hlen, ml] <;> with_reducible rfl)))
  unfold F32_rlrrr
  repeat (first | (with_reducible apply Tl.val; focus (simp (disch := omega) only [coreA, Int.reduceBEq, base_N6] <;> with_reducible rfl)) | (with_reducible first | refine Tl.brT ?_ | refine Tl.brF ?_ | refine Tl.gd_on ?_ | refine Tl.gd3_on ?_) | ((with_reducible first | apply Tl.brC | apply Tl.gdC | apply Tl.gd3C); focus (simp (disch := omega) only [coreA, Int.reduceBEq, base_N6] <;> with_reducible rfl)))
  refine Tl.makeK (Stt.init h) app22 ze4 (by omega) (by omega) fun b h1 S1 g1 => ?_
  have S1 : Stt Try.prog h.n h h1 [(b, .cells (fillC x 0 n) 4 true)] [] := by
    have e : (List.replicate n (Value.bool false).cells.toList).flatten = fillC x 0 n := by
      unfold fillC
      simp only [List.replicate_zero, List.nil_append, Nat.sub_zero, List.map_replicate, bv]
      have : (Value.bool false).cells.toList = [Value.bool false] := rfl
      rw [this]
      clear hn hk ml S1
      induction n with
      | zero => rfl
      | succ n ih => rw [List.replicate_succ, List.flatten_cons, ih, List.replicate_succ]; rfl
    rw [← e]; exact S1
  have B1 := S.grow g1
  have hc : cellsOf Try.prog 1 (min 1 n) v h1 = some ((List.replicate (min 1 n) x).map bv) := by
    by_cases hn0 : n = 0
    · subst hn0
      rcases B1 with ⟨q, q2⟩ | ⟨b', o, c, own, q, _, _⟩
      · simp at q2
      · subst q; rfl
    · have : min 1 n = 1 := by omega
      rw [this]
      exact SlV.cellsOf B1 (by omega)
  have hl1 : lenE v = some 1 := lenE_of B1
  refine Tl.copy' S1 0 rfl el22 sz4 hl1 hc (by simp [bv, oneCell]) (by rw [fillC_len _ _ _ (by omega)]; simp; omega) fun h2 S2 => ?_
  rw [fillC_splice x 0 _ n (by omega), Nat.zero_add] at S2
  refine f32_loop (p := min 1 n) (by omega) (n - min 1 n) (by omega) (by omega) (by omega) S2 fun h3 y y' S3 => ?_
  have S3 : Stt Try.prog h.n h h3 ((b, .cells (brows (List.replicate n x)).flatten 4 true) :: []) [] := by
    have e : (brows (List.replicate n x)).flatten = fillC x n n := by
      unfold fillC brows
      rw [Nat.sub_self, List.replicate_zero, List.append_nil]
      generalize List.replicate n x = l
      induction l with
      | nil => rfl
      | cons a l ih => rw [List.map_cons, List.flatten_cons, ih]; rfl
    rw [e]; exact S3
  have S4 := S3.absorb (n := 1) (fun r hr => by obtain ⟨z, _, rfl⟩ := List.mem_map.1 hr; rfl) sz4
  rw [brows_len, List.length_replicate] at S4
  exact ⟨_, rfl, S4.ret 0 rfl, S4.grow⟩
end Go.Proofs.Ytoleebigheobcaa.Sh
