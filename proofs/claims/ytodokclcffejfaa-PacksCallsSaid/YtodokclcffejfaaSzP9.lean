/- 'Get' of the packs' package; Same of words. -/
import Derived.Test.YtodokclcffejfaaSzP8
set_option linter.unusedVariables false
set_option linter.unusedSimpArgs false
set_option maxRecDepth 100000
namespace Go.Proofs.Ytodokclcffejfaa.Sh
open Go Go.RowKit Go.Proofs.Ev

theorem checkE_zero {bs : List Nat} {n w : Int} (q : checkE bs n w = 0) : ∃ N W : Nat, n = (N : Int) ∧ w = (W : Int) ∧ N ≤ 65536 ∧ W ≤ 64 ∧ bs.length = sizeN N W ∧ byN bs / 2 ^ (N * W) % 2 ^ (8 * bs.length - N * W) = 0 := by
  have qm : mayB n w = true := by
    unfold checkE at q
    cases hm : mayB n w
    · rw [if_pos hm] at q; cases q
    · rfl
  obtain ⟨N, W, rfl, rfl, hN, hW⟩ := mayB_nat qm
  have hs : bs.length = sizeN N W := by
    unfold checkE at q
    rw [if_neg (by simp [qm])] at q
    by_cases hl : bs.length = sizeN N W
    · exact hl
    · rw [if_pos (by simpa using hl)] at q; cases q
  refine ⟨N, W, rfl, rfl, hN, hW, hs, ?_⟩
  unfold checkE at q
  rw [if_neg (by simp [qm]), if_neg (by simpa using hs)] at q
  by_cases z : byN bs / 2 ^ (N * W) % 2 ^ (8 * bs.length - N * W) = 0
  · exact z
  · rw [if_pos (by simpa using z)] at q; cases q
/-- The numbers that 'Get' tells. -/
def getN (bs : List Nat) (n w : Int) : List Nat := if checkE bs n w = 0 then digs w.toNat (byN bs) n.toNat else []
theorem f13c {k : Nat} {h : AH} {v : Value} {bs : List Nat} (A : Bytes h v (ints bs)) (hb : ∀ x ∈ bs, x < 256) (hbl : bs.length ≤ 2 ^ 40) (hk1 : kn v = true) (h1v : oneCell v = true) (n w : Int) (hkn : checkE bs n w = 0 → n.toNat < k) :
    Tl (eInv env (k + 90) (.func 13) #[] #[v, .int .i64 n, .int .i64 w] h) fun r => ∃ o, r.1 = .tuple #[o, .int .i64 (checkE bs n w)] ∧ Grow h r.2 ∧ OwnB Try.prog h.n r.2 o 1 ((ints (getN bs n w)).map wrow) := by
  rw [F13_call]
  unfold F13
  have ck := f25c (k := k + 9) A hb hbl n w
  by_cases q : checkE bs n w = 0
  · have ne : (checkE bs n w != 0) = false := by simp [q]
    obtain ⟨N, W, rfl, rfl, hN, hW, hs, hz⟩ := checkE_zero q
    have hkn := hkn q
    simp only [Int.toNat_natCast] at hkn
    repeat (with_reducible apply Tl.val; focus (simp only [bnd_some, bin_add, bin_sub, bin_mul, bin_lss, bin_leq, bin_gtr, bin_geq, bin_eql, bin_neq, un_not, un_neg, goInt, gd_tt, gd_ff, gd_tf, gd_ft, gd_sk, gd3_tt, gd3_ff, gd3_tf, gd3_ft, gd3_sk, Option.map_some, lt_some, pick_t, pick_f, Nat.zero_add, Bool.not_true, Bool.not_false, Bool.true_and, Bool.false_and, Bool.and_true, Bool.and_false, cond_true, cond_false, beq_self_eq_true, Int.reduceBEq, decide_true, decide_false, ld3, ld5, ld22, ld25, ld30, conv_int u30 u5, conv_int u5 u3, conv_int u5 u30, bin_eql_bool u4, bin_neq_bool u4, xor64u, and64u, or64u, or8, and8, ex0, ex1, ck, ne] <;> with_reducible rfl))
    with_reducible refine Tl.brF ?_
    refine Tl.alloc (Sta.init h) ze22 rfl fun b9 h1 S1 g1 => ?_
    refine Tl.bind (f22c (k := k + 88) (n := (N : Int)) (w := (W : Int)) S1 hk1 h1v) fun r hr => ?_
    obtain ⟨x22, h2⟩ := r
    obtain ⟨b3, b4, b5, e9, S2, g2⟩ := hr
    simp only at e9 S2 g2
    subst e9
    unfold F13_rlrrr
    refine Tl.range (R := fun hh => ∃ ov o, Sta h.n h hh [(h2.n, o), (b5, .cells [.int .i64 (W : Int)] 3 true), (b4, .cells [.int .i64 (N : Int)] 3 true), (b3, .cells [v] 25 true), (b9, .cells [ov] 22 true)] ∧ OwnL Try.prog h.n hh ov 1 ((ints (digs W (byN bs) N)).map wrow) [(h2.n, o), (b5, .cells [.int .i64 (W : Int)] 3 true), (b4, .cells [.int .i64 (N : Int)] 3 true), (b3, .cells [v] 25 true), (b9, .cells [ov] 22 true)]) (by kernel_rfl) ?_ ?_
    · have S3 : Sta h.n h (h2.alloc (lpo .ready b9 (eachFn b3 b4 b5))) (L5 h2.n b3 b4 b5 b9 (eachFn b3 b4 b5) v (.slice none 0 0) N W) := S2.alloc _
      rw [show ((#[] : Array Value) ++ #[.func (.yield h2.n) #[] #[]]) = #[.func (.yield h2.n) #[] #[]] by simp]
      let I : Nat → AH → Prop := fun i hh => ∃ ov, kn ov = true ∧ oneCell ov = true ∧ Sta h.n h hh (L5 h2.n b3 b4 b5 b9 (eachFn b3 b4 b5) v ov N W) ∧ OwnL Try.prog h.n hh ov 1 ((ints (digs W (byN bs) i)).map wrow) (L5 h2.n b3 b4 b5 b9 (eachFn b3 b4 b5) v ov N W)
      have hI : ∀ i hh, I i hh → hh.cell b3 0 = some v ∧ hh.cell b4 0 = some (.int .i64 (N : Int)) ∧ hh.cell b5 0 = some (.int .i64 (W : Int)) ∧ Bytes hh v (ints bs) := by
        rintro i hh ⟨ov, _, _, S, _⟩
        exact ⟨(Ev.cell_of (S.mem.at_ (i := 3) rfl)).trans rfl, (Ev.cell_of (S.mem.at_ (i := 2) rfl)).trans rfl, (Ev.cell_of (S.mem.at_ (i := 1) rfl)).trans rfl, SlV.grow A S.done⟩
      have hr : checkE bs (N : Int) (W : Int) = 0 → ∀ i hh, i < ((N : Int)).toNat → I i hh → Tl (callV (eInv env (k + 8 + 80)) (.func (.yield h2.n) #[] #[]) #[.int .i64 (i : Int), .int .u64 (digit ((W : Int)).toNat bs i : Int)] hh) fun r => (r.1 = .bool true ∧ I (i + 1) r.2) ∨ (r.1 = .bool false ∧ (fun _ => False) r.2) := by
        rintro _ i hh hi ⟨ov, ko, oo, S, O⟩
        simp only [Int.toNat_natCast] at hi ⊢
        obtain ⟨r, e1, e2, ov', k1, k2, S', O'⟩ := r13 (k := k + 8 + 79) (z0 := .int .i64 (i : Int)) (z := (digit W bs i : Int)) S O ko oo (by simp [ints, digs_len]; omega)
        refine ⟨r, e1, .inl ⟨e2, ov', k1, k2, S', ?_⟩⟩
        have : ints (digs W (byN bs) i) ++ [(digit W bs i : Int)] = ints (digs W (byN bs) (i + 1)) := by
          rw [digs_snoc, ints_append]
          rfl
        rw [← this]
        exact O'
      have hk' : checkE bs (N : Int) (W : Int) = 0 → ((N : Int)).toNat < k + 8 := fun _ => by simp; omega
      obtain ⟨r, e1, e2⟩ := f29c (k := k + 8) (b3 := b3) (b4 := b4) (b5 := b5) (yv := .func (.yield h2.n) #[] #[]) (J := fun _ => False) (I := I) hb hbl hk' hI hr ⟨_, rfl, rfl, S3, .inl ⟨rfl, rfl⟩⟩
      refine ⟨r, e1, ?_⟩
      rcases e2 with ⟨e2, _⟩ | ⟨_, e2 | e2⟩
      · exact absurd q e2
      · obtain ⟨ov, ko, oo, S, O⟩ := e2
        simp only [Int.toNat_natCast] at O
        have hg := S.mem.at_ (i := 0) rfl
        refine ⟨_, _, _, _, _, _, hg, by simp, ov, _, S.set 0 rfl _, ?_⟩
        exact (O.keep fun i hi => AH.get_set_other _ _ (fun q => hi (by subst q; simp [L5]))).list rfl
      · exact e2.elim
    · rintro h3 ⟨ov, o, S4, O4⟩
      have c9 : h3.cell b9 0 = some ov := (Ev.cell_of (S4.mem.at_ (i := 4) rfl)).trans rfl
      show Tl (Ev.bnd _ _) _
      repeat (with_reducible apply Tl.val; focus (simp only [bnd_some, bin_add, bin_sub, bin_mul, bin_lss, bin_leq, bin_gtr, bin_geq, bin_eql, bin_neq, un_not, un_neg, goInt, gd_tt, gd_ff, gd_tf, gd_ft, gd_sk, gd3_tt, gd3_ff, gd3_tf, gd3_ft, gd3_sk, Option.map_some, lt_some, pick_t, pick_f, Nat.zero_add, Bool.not_true, Bool.not_false, Bool.true_and, Bool.false_and, Bool.and_true, Bool.and_false, cond_true, cond_false, beq_self_eq_true, Int.reduceBEq, decide_true, decide_false, ld3, ld5, ld22, ld25, ld30, conv_int u30 u5, conv_int u5 u3, conv_int u5 u30, bin_eql_bool u4, bin_neq_bool u4, xor64u, and64u, or64u, or8, and8, ex0, ex1, c9] <;> with_reducible rfl))
      refine ⟨_, rfl, ov, by rw [q], S4.done, ?_⟩
      have : getN bs (N : Int) (W : Int) = digs W (byN bs) N := by
        unfold getN
        rw [if_pos q]
        simp
      rw [this]
      rcases O4 with O4 | ⟨b, hb', _, X⟩
      · exact .inl O4
      · exact .inr ⟨b, hb', X⟩
  · have ne : (checkE bs n w != 0) = true := by simp [q]
    repeat (with_reducible apply Tl.val; focus (simp only [bnd_some, bin_add, bin_sub, bin_mul, bin_lss, bin_leq, bin_gtr, bin_geq, bin_eql, bin_neq, un_not, un_neg, goInt, gd_tt, gd_ff, gd_tf, gd_ft, gd_sk, gd3_tt, gd3_ff, gd3_tf, gd3_ft, gd3_sk, Option.map_some, lt_some, pick_t, pick_f, Nat.zero_add, Bool.not_true, Bool.not_false, Bool.true_and, Bool.false_and, Bool.and_true, Bool.and_false, cond_true, cond_false, beq_self_eq_true, Int.reduceBEq, decide_true, decide_false, ld3, ld5, ld22, ld25, ld30, conv_int u30 u5, conv_int u5 u3, conv_int u5 u30, bin_eql_bool u4, bin_neq_bool u4, xor64u, and64u, or64u, or8, and8, ex0, ex1, ck, ne] <;> with_reducible rfl))
    with_reducible refine Tl.brT ?_
    refine ⟨_, rfl, _, rfl, Grow.refl h, ?_⟩
    unfold getN
    rw [if_neg q]
    exact .inl ⟨rfl, rfl⟩
end Go.Proofs.Ytodokclcffejfaa.Sh
