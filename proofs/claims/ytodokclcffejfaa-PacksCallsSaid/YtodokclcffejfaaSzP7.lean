/- What the functions of the packs' package come to: 'check', 'Each', 'Get'. -/
import Derived.Test.YtodokclcffejfaaSzP6
import Derived.Test.YtodokclcffejfaaEv31
set_option linter.unusedVariables false
set_option linter.unusedSimpArgs false
set_option maxRecDepth 100000
namespace Go.Proofs.Ytodokclcffejfaa.Sh
open Go Go.RowKit Go.Proofs.Ev

def mayB (n w : Int) : Bool := decide (n ≥ 0) && (decide (n ≤ 65536) && (decide (w ≥ 0) && decide (w ≤ 64)))
theorem f23g {k : Nat} (n w : Int) (h : AH) : eInv env (k + 1) (.func 23) #[] #[.int .i64 n, .int .i64 w] h = some (.bool (mayB n w), h) := by
  have T : Tl (F23 (eInv env k) k (.int .i64 n) (.int .i64 w) h) fun r => r = (.bool (mayB n w), h) := by
    unfold F23 mayB
    cases e1 : decide (n ≥ 0)
    · repeat (with_reducible apply Tl.val; focus (simp only [bnd_some, bin_add, bin_sub, bin_mul, bin_lss, bin_leq, bin_gtr, bin_geq, bin_eql, bin_neq, un_not, un_neg, goInt, gd_tt, gd_ff, gd_tf, gd_ft, gd_sk, gd3_tt, gd3_ff, gd3_tf, gd3_ft, gd3_sk, Option.map_some, lt_some, pick_t, pick_f, Nat.zero_add, Bool.not_true, Bool.not_false, Bool.true_and, Bool.false_and, Bool.and_true, Bool.and_false, cond_true, cond_false, beq_self_eq_true, Int.reduceBEq, decide_true, decide_false, ld3, ld5, ld22, ld25, ld30, conv_int u30 u5, conv_int u5 u3, conv_int u5 u30, bin_eql_bool u4, bin_neq_bool u4, xor64u, and64u, or64u, or8, and8, ex0, ex1, e1] <;> with_reducible rfl))
      exact ⟨_, rfl, rfl⟩
    cases e2 : decide (n ≤ 65536)
    · repeat (with_reducible apply Tl.val; focus (simp only [bnd_some, bin_add, bin_sub, bin_mul, bin_lss, bin_leq, bin_gtr, bin_geq, bin_eql, bin_neq, un_not, un_neg, goInt, gd_tt, gd_ff, gd_tf, gd_ft, gd_sk, gd3_tt, gd3_ff, gd3_tf, gd3_ft, gd3_sk, Option.map_some, lt_some, pick_t, pick_f, Nat.zero_add, Bool.not_true, Bool.not_false, Bool.true_and, Bool.false_and, Bool.and_true, Bool.and_false, cond_true, cond_false, beq_self_eq_true, Int.reduceBEq, decide_true, decide_false, ld3, ld5, ld22, ld25, ld30, conv_int u30 u5, conv_int u5 u3, conv_int u5 u30, bin_eql_bool u4, bin_neq_bool u4, xor64u, and64u, or64u, or8, and8, ex0, ex1, e1, e2] <;> with_reducible rfl))
      exact ⟨_, rfl, rfl⟩
    cases e3 : decide (w ≥ 0)
    · repeat (with_reducible apply Tl.val; focus (simp only [bnd_some, bin_add, bin_sub, bin_mul, bin_lss, bin_leq, bin_gtr, bin_geq, bin_eql, bin_neq, un_not, un_neg, goInt, gd_tt, gd_ff, gd_tf, gd_ft, gd_sk, gd3_tt, gd3_ff, gd3_tf, gd3_ft, gd3_sk, Option.map_some, lt_some, pick_t, pick_f, Nat.zero_add, Bool.not_true, Bool.not_false, Bool.true_and, Bool.false_and, Bool.and_true, Bool.and_false, cond_true, cond_false, beq_self_eq_true, Int.reduceBEq, decide_true, decide_false, ld3, ld5, ld22, ld25, ld30, conv_int u30 u5, conv_int u5 u3, conv_int u5 u30, bin_eql_bool u4, bin_neq_bool u4, xor64u, and64u, or64u, or8, and8, ex0, ex1, e1, e2, e3] <;> with_reducible rfl))
      exact ⟨_, rfl, rfl⟩
    repeat (with_reducible apply Tl.val; focus (simp only [bnd_some, bin_add, bin_sub, bin_mul, bin_lss, bin_leq, bin_gtr, bin_geq, bin_eql, bin_neq, un_not, un_neg, goInt, gd_tt, gd_ff, gd_tf, gd_ft, gd_sk, gd3_tt, gd3_ff, gd3_tf, gd3_ft, gd3_sk, Option.map_some, lt_some, pick_t, pick_f, Nat.zero_add, Bool.not_true, Bool.not_false, Bool.true_and, Bool.false_and, Bool.and_true, Bool.and_false, cond_true, cond_false, beq_self_eq_true, Int.reduceBEq, decide_true, decide_false, ld3, ld5, ld22, ld25, ld30, conv_int u30 u5, conv_int u5 u3, conv_int u5 u30, bin_eql_bool u4, bin_neq_bool u4, xor64u, and64u, or64u, or8, and8, ex0, ex1, e1, e2, e3] <;> with_reducible rfl))
    exact ⟨_, rfl, rfl⟩
  obtain ⟨r, h1, h2⟩ := T
  rw [F23_call, h1, h2]
theorem mayB_nat {n w : Int} (h : mayB n w = true) : ∃ N W : Nat, n = (N : Int) ∧ w = (W : Int) ∧ N ≤ 65536 ∧ W ≤ 64 := by
  unfold mayB at h
  simp only [Bool.and_eq_true, decide_eq_true_eq] at h
  obtain ⟨N, rfl⟩ := Int.eq_ofNat_of_zero_le h.1
  obtain ⟨W, rfl⟩ := Int.eq_ofNat_of_zero_le h.2.2.1
  exact ⟨N, W, rfl, rfl, by omega, by omega⟩
theorem mayB_mk {N W : Nat} (h1 : N ≤ 65536) (h2 : W ≤ 64) : mayB (N : Int) (W : Int) = true := by
  unfold mayB
  simp only [Bool.and_eq_true, decide_eq_true_eq]
  omega
/-- What 'check' tells. -/
def checkE (bs : List Nat) (n w : Int) : Int := if mayB n w = false then 2 else if bs.length ≠ sizeN n.toNat w.toNat then 4 else if byN bs / 2 ^ (n.toNat * w.toNat) % 2 ^ (8 * bs.length - n.toNat * w.toNat) ≠ 0 then 4 else 0
theorem f25c {k : Nat} {h : AH} {v : Value} {bs : List Nat} (A : Bytes h v (ints bs)) (hb : ∀ x ∈ bs, x < 256) (hbl : bs.length ≤ 2 ^ 40) (n w : Int) : eInv env (k + 80) (.func 25) #[] #[v, .int .i64 n, .int .i64 w] h = some (.int .i64 (checkE bs n w), h) := by
  have hv : ∀ h', pLen Try.prog #[25] v h' = some (.int .i64 bs.length) := fun h' => by have := A.len (h' := h'); simpa [ints] using this
  have T : Tl (F25 (eInv env (k + 79)) (k + 79) v (.int .i64 n) (.int .i64 w) h) fun r => r = (.int .i64 (checkE bs n w), h) := by
    unfold F25 checkE
    have may := f23g (k := k + 78) n w h
    cases q : mayB n w
    · rw [q] at may
      repeat (with_reducible apply Tl.val; focus (simp only [bnd_some, bin_add, bin_sub, bin_mul, bin_lss, bin_leq, bin_gtr, bin_geq, bin_eql, bin_neq, un_not, un_neg, goInt, gd_tt, gd_ff, gd_tf, gd_ft, gd_sk, gd3_tt, gd3_ff, gd3_tf, gd3_ft, gd3_sk, Option.map_some, lt_some, pick_t, pick_f, Nat.zero_add, Bool.not_true, Bool.not_false, Bool.true_and, Bool.false_and, Bool.and_true, Bool.and_false, cond_true, cond_false, beq_self_eq_true, Int.reduceBEq, decide_true, decide_false, ld3, ld5, ld22, ld25, ld30, conv_int u30 u5, conv_int u5 u3, conv_int u5 u30, bin_eql_bool u4, bin_neq_bool u4, xor64u, and64u, or64u, or8, and8, ex0, ex1, may] <;> with_reducible rfl))
      with_reducible refine Tl.brT ?_
      exact ⟨_, rfl, rfl⟩
    obtain ⟨N, W, rfl, rfl, hN, hW⟩ := mayB_nat q
    rw [q] at may
    have siz := f16c (k := k + 77) hN hW h
    have hm : N * W ≤ 65536 * 64 := Nat.mul_le_mul hN hW
    rw [if_neg (by simp)]
    simp only [Int.toNat_natCast]
    repeat (with_reducible apply Tl.val; focus (simp only [bnd_some, bin_add, bin_sub, bin_mul, bin_lss, bin_leq, bin_gtr, bin_geq, bin_eql, bin_neq, un_not, un_neg, goInt, gd_tt, gd_ff, gd_tf, gd_ft, gd_sk, gd3_tt, gd3_ff, gd3_tf, gd3_ft, gd3_sk, Option.map_some, lt_some, pick_t, pick_f, Nat.zero_add, Bool.not_true, Bool.not_false, Bool.true_and, Bool.false_and, Bool.and_true, Bool.and_false, cond_true, cond_false, beq_self_eq_true, Int.reduceBEq, decide_true, decide_false, ld3, ld5, ld22, ld25, ld30, conv_int u30 u5, conv_int u5 u3, conv_int u5 u30, bin_eql_bool u4, bin_neq_bool u4, xor64u, and64u, or64u, or8, and8, ex0, ex1, may] <;> with_reducible rfl))
    with_reducible refine Tl.brF ?_
    by_cases hl : bs.length = sizeN N W
    · rw [if_neg (by simpa using hl)]
      have ne : (((bs.length : Nat) : Int) != ((sizeN N W : Nat) : Int)) = false := by rw [hl]; simp
      have e1 : IntKind.i64.wrap ((N : Int) * (W : Int)) = ((N * W : Nat) : Int) := by
        have : (N : Int) * (W : Int) = ((N * W : Nat) : Int) := by simp
        rw [this, wrap_i64']; split <;> omega
      have hs : 8 * sizeN N W ≤ N * W + 7 ∧ N * W ≤ 8 * sizeN N W := by unfold sizeN; omega
      have e2 : IntKind.i64.wrap (8 * ((bs.length : Nat) : Int)) = ((8 * bs.length : Nat) : Int) := by rw [wrap_i64']; split <;> omega
      have e3 : IntKind.i64.wrap (((8 * bs.length : Nat) : Int) - ((N * W : Nat) : Int)) = ((8 * bs.length - N * W : Nat) : Int) := by rw [wrap_i64']; split <;> omega
      have at_ := f30c (k := k + 78) A hb (frm := N * W) (w := 8 * bs.length - N * W) (by omega) (by omega) hbl (by omega)
      repeat (with_reducible apply Tl.val; focus (simp only [bnd_some, bin_add, bin_sub, bin_mul, bin_lss, bin_leq, bin_gtr, bin_geq, bin_eql, bin_neq, un_not, un_neg, goInt, gd_tt, gd_ff, gd_tf, gd_ft, gd_sk, gd3_tt, gd3_ff, gd3_tf, gd3_ft, gd3_sk, Option.map_some, lt_some, pick_t, pick_f, Nat.zero_add, Bool.not_true, Bool.not_false, Bool.true_and, Bool.false_and, Bool.and_true, Bool.and_false, cond_true, cond_false, beq_self_eq_true, Int.reduceBEq, decide_true, decide_false, ld3, ld5, ld22, ld25, ld30, conv_int u30 u5, conv_int u5 u3, conv_int u5 u30, bin_eql_bool u4, bin_neq_bool u4, xor64u, and64u, or64u, or8, and8, ex0, ex1, hv, siz, ne] <;> with_reducible rfl))
      with_reducible refine Tl.brF ?_
      by_cases z : byN bs / 2 ^ (N * W) % 2 ^ (8 * bs.length - N * W) = 0
      · rw [if_neg (by simpa using z)]
        have nz : (((byN bs / 2 ^ (N * W) % 2 ^ (8 * bs.length - N * W) : Nat) : Int) != 0) = false := by rw [z]; rfl
        repeat (with_reducible apply Tl.val; focus (simp only [bnd_some, bin_add, bin_sub, bin_mul, bin_lss, bin_leq, bin_gtr, bin_geq, bin_eql, bin_neq, un_not, un_neg, goInt, gd_tt, gd_ff, gd_tf, gd_ft, gd_sk, gd3_tt, gd3_ff, gd3_tf, gd3_ft, gd3_sk, Option.map_some, lt_some, pick_t, pick_f, Nat.zero_add, Bool.not_true, Bool.not_false, Bool.true_and, Bool.false_and, Bool.and_true, Bool.and_false, cond_true, cond_false, beq_self_eq_true, Int.reduceBEq, decide_true, decide_false, ld3, ld5, ld22, ld25, ld30, conv_int u30 u5, conv_int u5 u3, conv_int u5 u30, bin_eql_bool u4, bin_neq_bool u4, xor64u, and64u, or64u, or8, and8, ex0, ex1, hv, e1, e2, e3, at_, nz] <;> with_reducible rfl))
        with_reducible refine Tl.brF ?_
        exact ⟨_, rfl, rfl⟩
      · rw [if_pos z]
        have nz : (((byN bs / 2 ^ (N * W) % 2 ^ (8 * bs.length - N * W) : Nat) : Int) != 0) = true := by
          simp only [bne_iff_ne, ne_eq]
          omega
        repeat (with_reducible apply Tl.val; focus (simp only [bnd_some, bin_add, bin_sub, bin_mul, bin_lss, bin_leq, bin_gtr, bin_geq, bin_eql, bin_neq, un_not, un_neg, goInt, gd_tt, gd_ff, gd_tf, gd_ft, gd_sk, gd3_tt, gd3_ff, gd3_tf, gd3_ft, gd3_sk, Option.map_some, lt_some, pick_t, pick_f, Nat.zero_add, Bool.not_true, Bool.not_false, Bool.true_and, Bool.false_and, Bool.and_true, Bool.and_false, cond_true, cond_false, beq_self_eq_true, Int.reduceBEq, decide_true, decide_false, ld3, ld5, ld22, ld25, ld30, conv_int u30 u5, conv_int u5 u3, conv_int u5 u30, bin_eql_bool u4, bin_neq_bool u4, xor64u, and64u, or64u, or8, and8, ex0, ex1, hv, e1, e2, e3, at_, nz] <;> with_reducible rfl))
        with_reducible refine Tl.brT ?_
        exact ⟨_, rfl, rfl⟩
    · rw [if_pos hl]
      have ne : (((bs.length : Nat) : Int) != ((sizeN N W : Nat) : Int)) = true := by
        simp only [bne_iff_ne, ne_eq]; omega
      repeat (with_reducible apply Tl.val; focus (simp only [bnd_some, bin_add, bin_sub, bin_mul, bin_lss, bin_leq, bin_gtr, bin_geq, bin_eql, bin_neq, un_not, un_neg, goInt, gd_tt, gd_ff, gd_tf, gd_ft, gd_sk, gd3_tt, gd3_ff, gd3_tf, gd3_ft, gd3_sk, Option.map_some, lt_some, pick_t, pick_f, Nat.zero_add, Bool.not_true, Bool.not_false, Bool.true_and, Bool.false_and, Bool.and_true, Bool.and_false, cond_true, cond_false, beq_self_eq_true, Int.reduceBEq, decide_true, decide_false, ld3, ld5, ld22, ld25, ld30, conv_int u30 u5, conv_int u5 u3, conv_int u5 u30, bin_eql_bool u4, bin_neq_bool u4, xor64u, and64u, or64u, or8, and8, ex0, ex1, hv, siz, ne] <;> with_reducible rfl))
      with_reducible refine Tl.brT ?_
      exact ⟨_, rfl, rfl⟩
  obtain ⟨r, h1, h2⟩ := T
  rw [F25_call, h1, h2]
/-! ### Appending to a row that a variable holds -/
theorem bs22 (z : Int) (h : AH) : pBuildSlice Try.prog 22 1 #[(0, .int .u64 z)] h = some (.slice (some ⟨h.n, 0, none⟩) 1 1, h.alloc (.cells [.int .u64 z] 30 true)) := by kernel_rfl
theorem app_L {n0 : Nat} {h0 h : AH} {L : List (Nat × AO)} (S : Sta n0 h0 h L) {v : Value} {vals : List Int} (O : OwnL Try.prog n0 h v 1 (vals.map wrow) L) (hl : vals.length ≤ 2 ^ 30) (z : Int) :
    ∃ v' h', pAppend Try.prog #[22, 22] v (.slice (some ⟨h.n, 0, none⟩) 1 1) (h.alloc (.cells [.int .u64 z] 30 true)) = some (v', h') ∧ Sta n0 h0 h' L ∧ OwnL Try.prog n0 h' v' 1 ((vals ++ [z]).map wrow) L := by
  have S1 : Sta n0 h0 (h.alloc (.cells [.int .u64 z] 30 true)) L := (S.alloc _).drop
  have B := slV_one (P := Try.prog) (h := h) (e := 30) (n := 1) (r := [.int .u64 z]) rfl
  have hL : ∀ p ∈ L, p.1 < h.n := S.mem.lt
  have hnew : h.n + 1 ∉ L.map (·.1) := by
    intro hc
    obtain ⟨p, hp, he⟩ := List.mem_map.1 hc
    have := hL p hp
    omega
  rcases O with ⟨rfl, hnil⟩ | ⟨b, hb, hbL, X⟩
  · have hv : vals = [] := by simpa using hnil
    subst hv
    have A' : SlV Try.prog (h.alloc (.cells [.int .u64 z] 30 true)) (.slice none ([] : List (List Value)).length 0) 1 [] := .inl ⟨rfl, rfl⟩
    obtain ⟨h', e1, e2, ez, e3, e4⟩ := append_new app22 A' B rfl (by simp) (by simp) rfl
    simp only [AH.n_alloc] at e1 e2 ez e3 e4
    refine ⟨_, h', e1, S1.keep (by simp; omega) (fun i hi => e4 i (by have := S.size; omega) (fun a' ha => by cases ha)) (fun p hp => e4 p.1 (by have := hL p hp; omega) (fun a' ha => by cases ha)), .inr ⟨h.n + 1, by have := S.size; omega, hnew, ?_⟩⟩
    exact ⟨by simp, by simpa [wrow] using e2, ez⟩
  · have X1 := X.keep ((Grow.alloc h (.cells [.int .u64 z] 30 true)).2 _ X.lie.lt)
    have A' := X1.slV
    rw [X.form] at A'
    obtain ⟨h', e1, e2, ez, e3, e4⟩ := append_new app22 A' B X1.sz (by simp) (by simp; omega) rfl
    rw [← X.form] at e1
    simp only [AH.n_alloc] at e1 e2 ez e3 e4
    refine ⟨_, h', e1, S1.keep (by simp; omega) (fun i hi => e4 i (by have := S.size; omega) (fun a' ha => by cases ha; simp only; omega)) (fun p hp => e4 p.1 (by have := hL p hp; omega) (fun a' ha => by
      cases ha
      simp only
      intro q
      exact hbL (q ▸ List.mem_map.2 ⟨p, hp, rfl⟩))), .inr ⟨h.n + 1, by have := S.size; omega, hnew, ?_⟩⟩
    refine ⟨by simp, ?_, ez⟩
    have : (vals.map wrow ++ [[Value.int IntKind.u64 z]]) = (vals ++ [z]).map wrow := by simp [wrow]
    rw [← this]
    exact e2
/-! ### 'Get' -/
noncomputable def lpo (st : LoopState) (b9 : Nat) (x22 : Value) : AO := .loop st none 13 (act 30 [(6, .slice none 0 0), (7, .int .i64 0), (9, .pointer (some ⟨b9, 0, none⟩)), (22, x22)]).tmps (psOf (cl (cr (cl (cr (cr (cr c13))))))) (cl (cl (cr (cl (cr (cr (cr c13))))))) (cr (cl (cr (cl (cr (cr (cr c13)))))))
noncomputable def L5 (bl b3 b4 b5 b9 : Nat) (x22 bv ov : Value) (n w : Nat) : List (Nat × AO) :=
  [(bl, lpo .ready b9 x22), (b5, .cells [.int .i64 (w : Int)] 3 true), (b4, .cells [.int .i64 (n : Int)] 3 true), (b3, .cells [bv] 25 true), (b9, .cells [ov] 22 true)]
theorem r13 {k : Nat} {h0 h : AH} {n0 bl b3 b4 b5 b9 n w : Nat} {x22 bv ov z0 : Value} {vals : List Int} {z : Int} (S : Sta n0 h0 h (L5 bl b3 b4 b5 b9 x22 bv ov n w)) (O : OwnL Try.prog n0 h ov 1 (vals.map wrow) (L5 bl b3 b4 b5 b9 x22 bv ov n w))
    (hko : kn ov = true) (h1o : oneCell ov = true) (hl : vals.length ≤ 2 ^ 30) :
    Tl (callV (eInv env (k + 1)) (.func (.yield bl) #[] #[]) #[z0, .int .u64 z] h) fun r => r.1 = .bool true ∧ ∃ ov', kn ov' = true ∧ oneCell ov' = true ∧ Sta n0 h0 r.2 (L5 bl b3 b4 b5 b9 x22 bv ov' n w) ∧ OwnL Try.prog n0 r.2 ov' 1 ((vals ++ [z]).map wrow) (L5 bl b3 b4 b5 b9 x22 bv ov' n w) := by
  have hl0 := S.mem.at_ (i := 0) rfl
  have e : callV (eInv env (k + 1)) (.func (.yield bl) #[] #[]) #[z0, .int .u64 z] h = eInv env (k + 1) (.yield bl) #[] (#[] ++ #[z0, .int .u64 z]) h := rfl
  rw [e, show ((#[] : Array Value) ++ #[z0, .int .u64 z]) = #[z0, .int .u64 z] by simp, inv_yield, R13_lrlrrr_eq hl0]
  unfold R13_lrlrrr
  refine Tl.rdBeginX S 0 rfl fun h1 S1 G1 => ?_
  have O1 : OwnL Try.prog n0 h1 ov 1 (vals.map wrow) ((L5 bl b3 b4 b5 b9 x22 bv ov n w).set 0 (bl, lpo .busy b9 x22)) :=
    (O.keep fun i hi => G1 i (fun q => hi (by subst q; simp [L5]))).list (by simp [L5])
  have c9 : h1.cell b9 0 = some ov := (Ev.cell_of (S1.mem.at_ (i := 4) rfl)).trans rfl
  obtain ⟨v', h2, e1, S2, O2⟩ := app_L S1 O1 hl z
  repeat (with_reducible apply Tl.val; focus (simp only [bnd_some, bin_add, bin_sub, bin_mul, bin_lss, bin_leq, bin_gtr, bin_geq, bin_eql, bin_neq, un_not, un_neg, goInt, gd_tt, gd_ff, gd_tf, gd_ft, gd_sk, gd3_tt, gd3_ff, gd3_tf, gd3_ft, gd3_sk, Option.map_some, lt_some, pick_t, pick_f, Nat.zero_add, Bool.not_true, Bool.not_false, Bool.true_and, Bool.false_and, Bool.and_true, Bool.and_false, cond_true, cond_false, beq_self_eq_true, Int.reduceBEq, decide_true, decide_false, ld3, ld5, ld22, ld25, ld30, conv_int u30 u5, conv_int u5 u3, conv_int u5 u30, bin_eql_bool u4, bin_neq_bool u4, xor64u, and64u, or64u, or8, and8, ex0, ex1, c9, bs22] <;> with_reducible rfl))
  refine Tl.val e1 ?_
  have hv' : kn v' = true ∧ oneCell v' = true ∧ v'.cells.toList = [v'] := by
    rcases O2 with ⟨rfl, _⟩ | ⟨b, _, _, X⟩
    · exact ⟨rfl, rfl, rfl⟩
    · rw [X.form]; exact ⟨rfl, rfl, rfl⟩
  obtain ⟨k1, k2, k3⟩ := hv'
  have hcs : v'.cells.size = 1 := by rw [← Array.length_toList, k3]; rfl
  refine Tl.storeX S2 4 rfl sz22 hcs (by rw [k3]; simp [k2]) (of_decide_eq_true rfl) fun h3 S3 G3 => ?_
  obtain ⟨h4, q1, S4, G4⟩ := rdEnd_normalX S3 0 rfl
  refine ⟨_, q1, rfl, v', k1, k2, ?_, ?_⟩
  · have e : ((((L5 bl b3 b4 b5 b9 x22 bv ov n w).set 0 (bl, lpo .busy b9 x22)).set 4 (b9, .cells (splice [ov] 0 v'.cells.toList) 22 true)).set 0 (bl, lpo .ready b9 x22)) = L5 bl b3 b4 b5 b9 x22 bv v' n w := by rw [k3]; rfl
    exact e ▸ S4
  · refine ((O2.keep (h' := h4) fun i hi => ?_).list ?_)
    · rw [G4 i (fun q => hi (by subst q; simp [L5])), G3 i (fun q => hi (by subst q; simp [L5]))]
    · simp [L5]
end Go.Proofs.Ytodokclcffejfaa.Sh
