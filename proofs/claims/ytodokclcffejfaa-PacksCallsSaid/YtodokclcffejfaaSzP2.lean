/- What the functions of the packs' package come to: bits one by one. -/
import Derived.Test.YtodokclcffejfaaSzP1
set_option linter.unusedVariables false
set_option linter.unusedSimpArgs false
set_option maxRecDepth 100000
namespace Go.Proofs.Ytodokclcffejfaa.Sh
open Go Go.RowKit Go.Proofs.Ev

structure PS where
  out : List Int
  held : Int
  n : Nat
def PS.cnt (s : PS) : Nat := 8 * s.out.length + s.n
def heldS (s : PS) (b : Int) : Int := IntKind.u8.wrap (BitVec.ofInt 8 s.held ||| BitVec.ofInt 8 (IntKind.u8.wrap (b * 2 ^ (min (s.n : Int).toNat 8)))).toNat
def bitS (s : PS) (b : Int) : PS := if s.n = 7 then ⟨s.out ++ [heldS s b], 0, 0⟩ else ⟨s.out, heldS s b, s.n + 1⟩
theorem bitS_cnt {s : PS} {b : Int} (h : s.n < 8) : (bitS s b).cnt = s.cnt + 1 ∧ (bitS s b).n < 8 := by
  unfold bitS PS.cnt
  by_cases q : s.n = 7
  · rw [if_pos q]; simp; omega
  · rw [if_neg q]; simp; omega
def pt (b : Nat) : Value := .pointer (some ⟨b, 0, none⟩)
def u8l (l : List Int) : List Value := l.map fun z => .int .u8 z
def L4 (bn bh bo bs cap : Nat) (s : PS) (pad : List Value) : List (Nat × AO) :=
  [(bn, .cells [.int .i64 (s.n : Int)] 3 true), (bh, .cells [.int .u8 s.held] 5 true), (bo, .cells [.slice (some ⟨bs, 0, none⟩) s.out.length cap] 25 true), (bs, .cells (u8l s.out ++ pad) 5 true)]
def PutSt (n0 : Nat) (h0 h : AH) (bn bh bo bs cap : Nat) (s : PS) : Prop := ∃ pad, s.out.length + pad.length = cap ∧ Sta n0 h0 h (L4 bn bh bo bs cap s pad)
theorem app25 : AppT Try.prog #[25, 25] 5 1 1 := ⟨by kernel_rfl, ⟨5, by kernel_rfl⟩, sz5, by omega, by kernel_rfl, ⟨_, ze5, rfl, rfl⟩⟩
theorem bs25 (z : Int) (h : AH) : pBuildSlice Try.prog 25 1 #[(0, .int .u8 z)] h = some (.slice (some ⟨h.n, 0, none⟩) 1 1, h.alloc (.cells [.int .u8 z] 5 true)) := by kernel_rfl
/-- A byte more, in place. -/
theorem app_in {h : AH} {bs b1 n cap : Nat} {cs : List Value} {z : Int} (hg : h.get bs = some (.cells cs 5 true)) (hcs : cs.length = cap) (hn : n < cap) (h1 : h.get b1 = some (.cells [.int .u8 z] 5 true)) :
    pAppend Try.prog #[25, 25] (.slice (some ⟨bs, 0, none⟩) n cap) (.slice (some ⟨b1, 0, none⟩) 1 1) h = some (.slice (some ⟨bs, 0, none⟩) (n + 1) cap, h.set bs (.cells (splice cs n [.int .u8 z]) 5 true)) := by
  obtain ⟨e', he'⟩ := app25.other
  have hnew : cellsOf Try.prog 1 1 (.slice (some ⟨b1, 0, none⟩) 1 1) h = some [.int .u8 z] := by
    unfold cellsOf
    simp only
    rw [if_neg (by omega), if_pos (by omega), row_of h1]
    rfl
  have hold : ∃ old, cellsOf Try.prog 1 n (.slice (some ⟨bs, 0, none⟩) n cap) h = some old := by
    unfold cellsOf
    simp only
    by_cases q : n * 1 = 0
    · rw [if_pos q]; exact ⟨_, rfl⟩
    · rw [if_neg q, if_pos (Nat.le_refl _), row_of hg, if_pos (by omega)]; exact ⟨_, rfl⟩
  obtain ⟨old, hold⟩ := hold
  have hput : h.put bs n [.int .u8 z] = some (h.set bs (.cells (splice cs n [.int .u8 z]) 5 true)) := by
    unfold AH.put
    rw [hg]
    simp only
    rw [if_pos (by simp; omega)]
  unfold pAppend
  rw [app25.elem, he']
  have hle : lenE (.slice (some ⟨b1, 0, none⟩) 1 1) = some 1 := rfl
  have hz : ∃ z0, zeroT Try.prog 5 = some z0 := ⟨_, ze5⟩
  obtain ⟨z0, hz⟩ := hz
  simp only [isIntT_slice, Bool.false_eq_true, if_false, app25.size, app25.byt, hle, hz, Nat.zero_add, hnew, hold]
  rw [if_pos (by omega)]
  have e1 : ([Value.int .u8 z] : List Value).isEmpty = false := rfl
  have e2 : ([Value.int .u8 z] : List Value).all oneCell = true := rfl
  simp only [e1, Bool.false_eq_true, if_false, e2, if_true, Nat.mul_one, hput, Option.map_some]
theorem splice_pad (l : List Int) (p : Value) (pad : List Value) (z : Int) : splice (u8l l ++ p :: pad) l.length [.int .u8 z] = u8l (l ++ [z]) ++ pad := by
  unfold splice u8l
  have e1 : (l.map (fun z => Value.int .u8 z) ++ p :: pad).take l.length = l.map fun z => .int .u8 z := by
    rw [List.take_append_of_le_length (by simp), List.take_of_length_le (by simp)]
  have e2 : (l.map (fun z => Value.int .u8 z) ++ p :: pad).drop (l.length + [Value.int IntKind.u8 z].length) = pad := by
    rw [List.drop_append]; simp
  rw [e1, e2]
  simp
theorem f24 {k : Nat} {n0 : Nat} {h0 h : AH} {bn bh bo bs cap : Nat} {s : PS} (b : Int) (hn : s.n < 8) (hc : s.cnt < 8 * cap) (T : PutSt n0 h0 h bn bh bo bs cap s) :
    Tl (F24 (eInv env k) k (.int .u8 b) (pt bh) (pt bn) (pt bo) h) fun r => PutSt n0 h0 r.2 bn bh bo bs cap (bitS s b) := by
  obtain ⟨pad, hp, S⟩ := T
  have cn : h.cell bn 0 = some (.int .i64 (s.n : Int)) := (Ev.cell_of (S.mem.at_ (i := 0) rfl)).trans rfl
  have ch : h.cell bh 0 = some (.int .u8 s.held) := (Ev.cell_of (S.mem.at_ (i := 1) rfl)).trans rfl
  have w1 : IntKind.i64.wrap ((s.n : Int) + 1) = ((s.n + 1 : Nat) : Int) := by rw [wrap_i64']; split <;> omega
  unfold F24 pt
  repeat (with_reducible apply Tl.val; focus (simp only [bnd_some, bin_add, bin_sub, bin_mul, bin_lss, bin_leq, bin_gtr, bin_geq, bin_eql, bin_neq, un_not, un_neg, goInt, gd_tt, gd_ff, gd_tf, gd_ft, gd_sk, gd3_tt, gd3_ff, gd3_tf, gd3_ft, gd3_sk, Option.map_some, lt_some, pick_t, pick_f, Nat.zero_add, Bool.not_true, Bool.not_false, Bool.true_and, Bool.false_and, Bool.and_true, Bool.and_false, cond_true, cond_false, beq_self_eq_true, Int.reduceBEq, decide_true, decide_false, ld3, ld5, ld25, ld30, conv_int u30 u5, conv_int u5 u3, bin_eql_bool u4, bin_neq_bool u4, xor64u, and64u, or64u, or8, and8, ch, cn, shl8 (show (0 : Int) ≤ (s.n : Int) by omega)] <;> with_reducible rfl))
  refine Tl.store S 1 rfl sz5 rfl rfl (of_decide_eq_true rfl) fun h1 S1 => ?_
  have S1 : Sta n0 h0 h1 (L4 bn bh bo bs cap ⟨s.out, heldS s b, s.n⟩ pad) := S1
  have cn1 : h1.cell bn 0 = some (.int .i64 (s.n : Int)) := (Ev.cell_of (S1.mem.at_ (i := 0) rfl)).trans rfl
  repeat (with_reducible apply Tl.val; focus (simp only [bnd_some, bin_add, bin_sub, bin_mul, bin_lss, bin_leq, bin_gtr, bin_geq, bin_eql, bin_neq, un_not, un_neg, goInt, gd_tt, gd_ff, gd_tf, gd_ft, gd_sk, gd3_tt, gd3_ff, gd3_tf, gd3_ft, gd3_sk, Option.map_some, lt_some, pick_t, pick_f, Nat.zero_add, Bool.not_true, Bool.not_false, Bool.true_and, Bool.false_and, Bool.and_true, Bool.and_false, cond_true, cond_false, beq_self_eq_true, Int.reduceBEq, decide_true, decide_false, ld3, ld5, ld25, ld30, conv_int u30 u5, conv_int u5 u3, bin_eql_bool u4, bin_neq_bool u4, xor64u, and64u, or64u, or8, and8, cn1, w1] <;> with_reducible rfl))
  refine Tl.store S1 0 rfl sz3 rfl rfl (of_decide_eq_true rfl) fun h2 S2 => ?_
  have S2 : Sta n0 h0 h2 (L4 bn bh bo bs cap ⟨s.out, heldS s b, s.n + 1⟩ pad) := S2
  have cn2 : h2.cell bn 0 = some (.int .i64 ((s.n + 1 : Nat) : Int)) := (Ev.cell_of (S2.mem.at_ (i := 0) rfl)).trans rfl
  have ch2 : h2.cell bh 0 = some (.int .u8 (heldS s b)) := (Ev.cell_of (S2.mem.at_ (i := 1) rfl)).trans rfl
  have co2 : h2.cell bo 0 = some (.slice (some ⟨bs, 0, none⟩) s.out.length cap) := (Ev.cell_of (S2.mem.at_ (i := 2) rfl)).trans rfl
  by_cases q : s.n = 7
  · have e : (((s.n + 1 : Nat) : Int) == 8) = true := by simp; omega
    repeat (with_reducible apply Tl.val; focus (simp only [bnd_some, bin_add, bin_sub, bin_mul, bin_lss, bin_leq, bin_gtr, bin_geq, bin_eql, bin_neq, un_not, un_neg, goInt, gd_tt, gd_ff, gd_tf, gd_ft, gd_sk, gd3_tt, gd3_ff, gd3_tf, gd3_ft, gd3_sk, Option.map_some, lt_some, pick_t, pick_f, Nat.zero_add, Bool.not_true, Bool.not_false, Bool.true_and, Bool.false_and, Bool.and_true, Bool.and_false, cond_true, cond_false, beq_self_eq_true, Int.reduceBEq, decide_true, decide_false, ld3, ld5, ld25, ld30, conv_int u30 u5, conv_int u5 u3, bin_eql_bool u4, bin_neq_bool u4, xor64u, and64u, or64u, or8, and8, cn2, e] <;> with_reducible rfl))
    with_reducible refine Tl.brT ?_
    repeat (with_reducible apply Tl.val; focus (simp only [bnd_some, bin_add, bin_sub, bin_mul, bin_lss, bin_leq, bin_gtr, bin_geq, bin_eql, bin_neq, un_not, un_neg, goInt, gd_tt, gd_ff, gd_tf, gd_ft, gd_sk, gd3_tt, gd3_ff, gd3_tf, gd3_ft, gd3_sk, Option.map_some, lt_some, pick_t, pick_f, Nat.zero_add, Bool.not_true, Bool.not_false, Bool.true_and, Bool.false_and, Bool.and_true, Bool.and_false, cond_true, cond_false, beq_self_eq_true, Int.reduceBEq, decide_true, decide_false, ld3, ld5, ld25, ld30, conv_int u30 u5, conv_int u5 u3, bin_eql_bool u4, bin_neq_bool u4, xor64u, and64u, or64u, or8, and8, co2, ch2, bs25] <;> with_reducible rfl))
    have S3 := S2.alloc (.cells [.int .u8 (heldS s b)] 5 true)
    have hcap : s.out.length < cap := by unfold PS.cnt at hc; omega
    obtain ⟨p, pad', rfl⟩ : ∃ p pad', pad = p :: pad' := by
      cases pad with
      | nil => simp at hp; omega
      | cons p pad' => exact ⟨p, pad', rfl⟩
    have hg3 := S3.mem.at_ (i := 4) rfl
    have hg0 := S3.mem.at_ (i := 0) rfl
    have ap := app_in (n := s.out.length) (cap := cap) hg3 (by simp [u8l] at hp ⊢; omega) hcap hg0
    simp only at ap
    rw [splice_pad] at ap
    refine Tl.val ap ?_
    have S4 := (S3.set 4 rfl (.cells (u8l (s.out ++ [heldS s b]) ++ pad') 5 true)).drop
    refine Tl.store S4 2 rfl sz25 rfl rfl (of_decide_eq_true rfl) fun h5 S5 => ?_
    refine Tl.store S5 1 rfl sz5 rfl rfl (of_decide_eq_true rfl) fun h6 S6 => ?_
    refine Tl.store S6 0 rfl sz3 rfl rfl (of_decide_eq_true rfl) fun h7 S7 => ?_
    refine ⟨_, rfl, pad', ?_, ?_⟩
    · unfold bitS; rw [if_pos q]; simp at hp ⊢; omega
    · unfold bitS
      rw [if_pos q]
      have : Sta n0 h0 h7 (L4 bn bh bo bs cap ⟨s.out ++ [heldS s b], 0, 0⟩ pad') := by
        unfold L4
        simp only [List.length_append, List.length_cons, List.length_nil]
        exact S7
      exact this
  · have e : (((s.n + 1 : Nat) : Int) == 8) = false := by simp; omega
    repeat (with_reducible apply Tl.val; focus (simp only [bnd_some, bin_add, bin_sub, bin_mul, bin_lss, bin_leq, bin_gtr, bin_geq, bin_eql, bin_neq, un_not, un_neg, goInt, gd_tt, gd_ff, gd_tf, gd_ft, gd_sk, gd3_tt, gd3_ff, gd3_tf, gd3_ft, gd3_sk, Option.map_some, lt_some, pick_t, pick_f, Nat.zero_add, Bool.not_true, Bool.not_false, Bool.true_and, Bool.false_and, Bool.and_true, Bool.and_false, cond_true, cond_false, beq_self_eq_true, Int.reduceBEq, decide_true, decide_false, ld3, ld5, ld25, ld30, conv_int u30 u5, conv_int u5 u3, bin_eql_bool u4, bin_neq_bool u4, xor64u, and64u, or64u, or8, and8, cn2, e] <;> with_reducible rfl))
    with_reducible refine Tl.brF ?_
    refine ⟨_, rfl, pad, ?_, ?_⟩
    · unfold bitS; rw [if_neg q]; exact hp
    · unfold bitS; rw [if_neg q]; exact S2
def bitFn (bh bn bo : Nat) : Value := .func (.func 24) #[] #[pt bh, pt bn, pt bo]
theorem f24c {k : Nat} {n0 : Nat} {h0 h : AH} {bn bh bo bs cap : Nat} {s : PS} (b : Int) (hn : s.n < 8) (hc : s.cnt < 8 * cap) (T : PutSt n0 h0 h bn bh bo bs cap s) :
    Tl (callV (eInv env (k + 1)) (bitFn bh bn bo) #[.int .u8 b] h) fun r => PutSt n0 h0 r.2 bn bh bo bs cap (bitS s b) := by
  have e : callV (eInv env (k + 1)) (bitFn bh bn bo) #[.int .u8 b] h = F24 (eInv env k) k (.int .u8 b) (pt bh) (pt bn) (pt bo) h := by
    have e1 : callV (eInv env (k + 1)) (bitFn bh bn bo) #[.int .u8 b] h = eInv env (k + 1) (.func 24) #[pt bh, pt bn, pt bo] (#[] ++ #[.int .u8 b]) h := rfl
    rw [e1, inv_cap (E := env) (f := 24) (by kernel_rfl), show ((#[] ++ #[.int .u8 b]) ++ #[pt bh, pt bn, pt bo] : Array Value) = #[.int .u8 b, pt bh, pt bn, pt bo] by simp]
    exact F24_eq
  rw [e]
  exact f24 b hn hc T
def one64 (v : Int) : Int := IntKind.u8.wrap (IntKind.u64.wrap (BitVec.ofInt 64 v &&& BitVec.ofInt 64 1).toNat)
def bitsOf : Nat → Int → List Int
  | 0, _ => []
  | w + 1, v => one64 v :: bitsOf w (v.fdiv (2 ^ (min (1 : Int).toNat 64)))
theorem bitsOf_len (w : Nat) : ∀ v, (bitsOf w v).length = w := by
  induction w with
  | zero => intro v; rfl
  | succ w ih => intro v; simp [bitsOf, ih]
theorem fold_cnt : ∀ (l : List Int) (s : PS), s.n < 8 → (l.foldl bitS s).cnt = s.cnt + l.length ∧ (l.foldl bitS s).n < 8 := by
  intro l
  induction l with
  | nil => intro s h; exact ⟨by simp, h⟩
  | cons b l ih =>
    intro s h
    obtain ⟨h1, h2⟩ := bitS_cnt (b := b) h
    obtain ⟨h3, h4⟩ := ih (bitS s b) h2
    rw [List.foldl_cons]
    exact ⟨by rw [h3, h1]; simp; omega, h4⟩
theorem inner {β : Type} {k : Nat} {Q : β → Prop} {n0 : Nat} {h0 : AH} {bn bh bo bs cap w : Nat} {x1 x29 x30 x31 : Value} (hw : w ≤ 64) {ke3 : Value → Value → Value → Value → Value → Value → Value → Value → Value → Value → Value → Value → AH → Option β} (r : Nat) :
    ∀ {i j : Nat} {v : Int} {s : PS} {h : AH}, i + r = w → r < j → s.n < 8 → s.cnt + r ≤ 8 * cap → PutSt n0 h0 h bn bh bo bs cap s →
      (∀ y11 y36 y37 h', PutSt n0 h0 h' bn bh bo bs cap ((bitsOf r v).foldl bitS s) → Tl (ke3 x1 (pt bo) (pt bh) (pt bn) (bitFn bh bn bo) y11 x29 x30 x31 (.int .i64 w) y36 y37 h') Q) →
      Tl (F10_lrrllrrllrlrrrrrr (eInv env (k + 1)) (k + 1) j x1 (pt bo) (pt bh) (pt bn) (bitFn bh bn bo) (.int .u64 v) x29 x30 x31 (.int .i64 w) (.int .i64 i) h ke3) Q := by
  induction r with
  | zero =>
    intro i j v s h hi hj hn hc T hk
    obtain ⟨j, rfl⟩ : ∃ q, j = q + 1 := ⟨j - 1, by omega⟩
    simp only [F10_lrrllrrllrlrrrrrr]
    have e : decide ((i : Int) < (w : Int)) = false := by simp; omega
    repeat (with_reducible apply Tl.val; focus (simp only [bnd_some, bin_add, bin_sub, bin_mul, bin_lss, bin_leq, bin_gtr, bin_geq, bin_eql, bin_neq, un_not, un_neg, goInt, gd_tt, gd_ff, gd_tf, gd_ft, gd_sk, gd3_tt, gd3_ff, gd3_tf, gd3_ft, gd3_sk, Option.map_some, lt_some, pick_t, pick_f, Nat.zero_add, Bool.not_true, Bool.not_false, Bool.true_and, Bool.false_and, Bool.and_true, Bool.and_false, cond_true, cond_false, beq_self_eq_true, Int.reduceBEq, decide_true, decide_false, ld3, ld5, ld25, ld30, conv_int u30 u5, conv_int u5 u3, bin_eql_bool u4, bin_neq_bool u4, xor64u, and64u, or64u, or8, and8, e] <;> with_reducible rfl))
    with_reducible refine Tl.brF ?_
    exact hk _ _ _ _ T
  | succ r ih =>
    intro i j v s h hi hj hn hc T hk
    obtain ⟨j, rfl⟩ : ∃ q, j = q + 1 := ⟨j - 1, by omega⟩
    simp only [F10_lrrllrrllrlrrrrrr]
    have e : decide ((i : Int) < (w : Int)) = true := by simp; omega
    have w1 : IntKind.i64.wrap ((i : Int) + 1) = ((i + 1 : Nat) : Int) := by rw [wrap_i64']; split <;> omega
    repeat (with_reducible apply Tl.val; focus (simp only [bnd_some, bin_add, bin_sub, bin_mul, bin_lss, bin_leq, bin_gtr, bin_geq, bin_eql, bin_neq, un_not, un_neg, goInt, gd_tt, gd_ff, gd_tf, gd_ft, gd_sk, gd3_tt, gd3_ff, gd3_tf, gd3_ft, gd3_sk, Option.map_some, lt_some, pick_t, pick_f, Nat.zero_add, Bool.not_true, Bool.not_false, Bool.true_and, Bool.false_and, Bool.and_true, Bool.and_false, cond_true, cond_false, beq_self_eq_true, Int.reduceBEq, decide_true, decide_false, ld3, ld5, ld25, ld30, conv_int u30 u5, conv_int u5 u3, bin_eql_bool u4, bin_neq_bool u4, xor64u, and64u, or64u, or8, and8, e] <;> with_reducible rfl))
    with_reducible refine Tl.brT ?_
    repeat (with_reducible apply Tl.val; focus (simp only [bnd_some, bin_add, bin_sub, bin_mul, bin_lss, bin_leq, bin_gtr, bin_geq, bin_eql, bin_neq, un_not, un_neg, goInt, gd_tt, gd_ff, gd_tf, gd_ft, gd_sk, gd3_tt, gd3_ff, gd3_tf, gd3_ft, gd3_sk, Option.map_some, lt_some, pick_t, pick_f, Nat.zero_add, Bool.not_true, Bool.not_false, Bool.true_and, Bool.false_and, Bool.and_true, Bool.and_false, cond_true, cond_false, beq_self_eq_true, Int.reduceBEq, decide_true, decide_false, ld3, ld5, ld25, ld30, conv_int u30 u5, conv_int u5 u3, bin_eql_bool u4, bin_neq_bool u4, xor64u, and64u, or64u, or8, and8] <;> with_reducible rfl))
    refine Tl.seq (f24c (k := k) (one64 v) hn (by omega) T) ?_
    rintro ⟨u, h1⟩ T1
    simp only at T1
    obtain ⟨c1, c2⟩ := bitS_cnt (b := one64 v) hn
    repeat (with_reducible apply Tl.val; focus (simp only [bnd_some, bin_add, bin_sub, bin_mul, bin_lss, bin_leq, bin_gtr, bin_geq, bin_eql, bin_neq, un_not, un_neg, goInt, gd_tt, gd_ff, gd_tf, gd_ft, gd_sk, gd3_tt, gd3_ff, gd3_tf, gd3_ft, gd3_sk, Option.map_some, lt_some, pick_t, pick_f, Nat.zero_add, Bool.not_true, Bool.not_false, Bool.true_and, Bool.false_and, Bool.and_true, Bool.and_false, cond_true, cond_false, beq_self_eq_true, Int.reduceBEq, decide_true, decide_false, ld3, ld5, ld25, ld30, conv_int u30 u5, conv_int u5 u3, bin_eql_bool u4, bin_neq_bool u4, xor64u, and64u, or64u, or8, and8, shr64u (show (0 : Int) ≤ 1 by decide), w1] <;> with_reducible rfl))
    refine ih (by omega) (by omega) c2 (by omega) T1 fun y11 y36 y37 h' T' => ?_
    exact hk _ _ _ _ T'
def allBits (w : Nat) (l : List Int) : List Int := l.flatMap (bitsOf w)
theorem allBits_len (w : Nat) (l : List Int) : (allBits w l).length = l.length * w := by
  induction l with
  | nil => simp [allBits]
  | cons v l ih =>
    have : allBits w (v :: l) = bitsOf w v ++ allBits w l := by simp [allBits]
    rw [this, List.length_append, ih, bitsOf_len, List.length_cons, Nat.succ_mul, Nat.add_comm]
theorem outer {β : Type} {k : Nat} {Q : β → Prop} {h0 : AH} {bn bh bo bs cap w : Nat} {v : Value} {l : List Int} (A : Words h0 v l) (hl : l.length ≤ 2 ^ 30) (hw : w ≤ 64) (hk0 : 66 < k) {ke1 : Value → Value → Value → Value → Value → Value → Value → Value → Value → AH → Option β} (n : Nat) :
    ∀ {i j : Nat} {s : PS} {h : AH}, i + n = l.length → n < j → s.n < 8 → s.cnt + n * w ≤ 8 * cap → PutSt h0.n h0 h bn bh bo bs cap s →
      (∀ y31 y32 h', PutSt h0.n h0 h' bn bh bo bs cap ((allBits w (l.drop i)).foldl bitS s) → Tl (ke1 (.int .i64 w) (pt bo) (pt bh) (pt bn) (bitFn bh bn bo) v (.int .i64 l.length) y31 y32 h') Q) →
      Tl (F10_lrlrrrrrr (eInv env (k + 1)) (k + 1) j (.int .i64 w) (pt bo) (pt bh) (pt bn) (bitFn bh bn bo) v (.int .i64 l.length) (.int .i64 i) h ke1) Q := by
  induction n with
  | zero =>
    intro i j s h hi hj hn hc T hk
    obtain ⟨j, rfl⟩ : ∃ q, j = q + 1 := ⟨j - 1, by omega⟩
    simp only [F10_lrlrrrrrr]
    have e : decide ((i : Int) < (l.length : Int)) = false := by simp; omega
    repeat (with_reducible apply Tl.val; focus (simp only [bnd_some, bin_add, bin_sub, bin_mul, bin_lss, bin_leq, bin_gtr, bin_geq, bin_eql, bin_neq, un_not, un_neg, goInt, gd_tt, gd_ff, gd_tf, gd_ft, gd_sk, gd3_tt, gd3_ff, gd3_tf, gd3_ft, gd3_sk, Option.map_some, lt_some, pick_t, pick_f, Nat.zero_add, Bool.not_true, Bool.not_false, Bool.true_and, Bool.false_and, Bool.and_true, Bool.and_false, cond_true, cond_false, beq_self_eq_true, Int.reduceBEq, decide_true, decide_false, ld3, ld5, ld25, ld30, conv_int u30 u5, conv_int u5 u3, bin_eql_bool u4, bin_neq_bool u4, xor64u, and64u, or64u, or8, and8, e] <;> with_reducible rfl))
    with_reducible refine Tl.brF ?_
    refine hk _ _ _ ?_
    rw [List.drop_eq_nil_of_le (by omega)]
    exact T
  | succ n ih =>
    intro i j s h hi hj hn hc T hk
    obtain ⟨j, rfl⟩ : ∃ q, j = q + 1 := ⟨j - 1, by omega⟩
    have hlt : i < l.length := by omega
    obtain ⟨c, hcc⟩ : ∃ c, l[i]? = some c := ⟨_, List.getElem?_eq_getElem hlt⟩
    obtain ⟨pad, hp, S⟩ := T
    obtain ⟨b, o, hx, h2⟩ := (A.grow S.done).at_ hcc
    have T : PutSt h0.n h0 h bn bh bo bs cap s := ⟨pad, hp, S⟩
    simp only [F10_lrlrrrrrr]
    have e : decide ((i : Int) < (l.length : Int)) = true := by simp; omega
    have w1 : IntKind.i64.wrap ((i : Int) + 1) = ((i + 1 : Nat) : Int) := by rw [wrap_i64']; split <;> omega
    rw [Nat.succ_mul] at hc
    repeat (with_reducible apply Tl.val; focus (simp only [bnd_some, bin_add, bin_sub, bin_mul, bin_lss, bin_leq, bin_gtr, bin_geq, bin_eql, bin_neq, un_not, un_neg, goInt, gd_tt, gd_ff, gd_tf, gd_ft, gd_sk, gd3_tt, gd3_ff, gd3_tf, gd3_ft, gd3_sk, Option.map_some, lt_some, pick_t, pick_f, Nat.zero_add, Bool.not_true, Bool.not_false, Bool.true_and, Bool.false_and, Bool.and_true, Bool.and_false, cond_true, cond_false, beq_self_eq_true, Int.reduceBEq, decide_true, decide_false, ld3, ld5, ld25, ld30, conv_int u30 u5, conv_int u5 u3, bin_eql_bool u4, bin_neq_bool u4, xor64u, and64u, or64u, or8, and8, e] <;> with_reducible rfl))
    with_reducible refine Tl.brT ?_
    repeat (with_reducible apply Tl.val; focus (simp only [bnd_some, bin_add, bin_sub, bin_mul, bin_lss, bin_leq, bin_gtr, bin_geq, bin_eql, bin_neq, un_not, un_neg, goInt, gd_tt, gd_ff, gd_tf, gd_ft, gd_sk, gd3_tt, gd3_ff, gd3_tf, gd3_ft, gd3_sk, Option.map_some, lt_some, pick_t, pick_f, Nat.zero_add, Bool.not_true, Bool.not_false, Bool.true_and, Bool.false_and, Bool.and_true, Bool.and_false, cond_true, cond_false, beq_self_eq_true, Int.reduceBEq, decide_true, decide_false, ld3, ld5, ld25, ld30, conv_int u30 u5, conv_int u5 u3, bin_eql_bool u4, bin_neq_bool u4, xor64u, and64u, or64u, or8, and8, hx, h2] <;> with_reducible rfl))
    refine inner (k := k) hw w (i := 0) (by omega) (by omega) hn (by omega) T fun y11 y36 y37 h1 T1 => ?_
    repeat (with_reducible apply Tl.val; focus (simp only [bnd_some, bin_add, bin_sub, bin_mul, bin_lss, bin_leq, bin_gtr, bin_geq, bin_eql, bin_neq, un_not, un_neg, goInt, gd_tt, gd_ff, gd_tf, gd_ft, gd_sk, gd3_tt, gd3_ff, gd3_tf, gd3_ft, gd3_sk, Option.map_some, lt_some, pick_t, pick_f, Nat.zero_add, Bool.not_true, Bool.not_false, Bool.true_and, Bool.false_and, Bool.and_true, Bool.and_false, cond_true, cond_false, beq_self_eq_true, Int.reduceBEq, decide_true, decide_false, ld3, ld5, ld25, ld30, conv_int u30 u5, conv_int u5 u3, bin_eql_bool u4, bin_neq_bool u4, xor64u, and64u, or64u, or8, and8, w1] <;> with_reducible rfl))
    obtain ⟨c1, c2⟩ := fold_cnt (bitsOf w c) s hn
    rw [bitsOf_len] at c1
    refine ih (by omega) (by omega) c2 (by omega) T1 fun y31 y32 h' T' => ?_
    refine hk _ _ _ ?_
    have hd : l.drop i = c :: l.drop (i + 1) := by
      rw [List.drop_eq_getElem_cons hlt]
      rw [List.getElem?_eq_getElem hlt] at hcc
      cases hcc; rfl
    rw [hd]
    have : allBits w (c :: l.drop (i + 1)) = bitsOf w c ++ allBits w (l.drop (i + 1)) := by simp [allBits]
    rw [this, List.foldl_append]
    exact T'
end Go.Proofs.Ytodokclcffejfaa.Sh
