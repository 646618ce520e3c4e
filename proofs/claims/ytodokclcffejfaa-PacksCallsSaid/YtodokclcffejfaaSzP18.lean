/- What 'Each' tells, gone through. -/
import Derived.Test.YtodokclcffejfaaSzP17
set_option linter.unusedVariables false
set_option linter.unusedSimpArgs false
set_option maxRecDepth 100000
namespace Go.Proofs.Ytodokclcffejfaa.Sh
open Go Go.RowKit Go.Proofs.Ev

noncomputable def lp19 (st : LoopState) (b4 b6 b7 b9 : Nat) (x18 : Value) : AO := .loop st none 19 (act 35 [(4, pt b4), (6, pt b6), (7, pt b7), (9, pt b9), (18, x18)]).tmps (psOf (cl (cr (cl (cr (cr (cr (cr c19)))))))) (cl (cl (cr (cl (cr (cr (cr (cr c19)))))))) (cr (cl (cr (cl (cr (cr (cr (cr c19))))))))
noncomputable def L19 (lo : AO) (bl e3 e4 e5 b4 b6 b7 b9 : Nat) (bv ov : Value) (n w : Int) : List (Nat × AO) :=
  [(bl, lo), (b9, .cells [ov] 22 true), (e5, .cells [.int .i64 w] 3 true), (e4, .cells [.int .i64 n] 3 true), (e3, .cells [bv] 25 true), (b7, .cells [.bool false] 4 true), (b6, .cells [.slice none 0 0] 22 true), (b4, .cells [.int .i64 n] 3 true)]
theorem r19 {k : Nat} {h0 h : AH} {n0 bl e3 e4 e5 b4 b6 b7 b9 : Nat} {n w : Int} {x18 bv ov : Value} {vals : List Int} {z : Int} (S : Sta n0 h0 h (L19 (lp19 .ready b4 b6 b7 b9 x18) bl e3 e4 e5 b4 b6 b7 b9 bv ov n w))
    (O : OwnL Try.prog n0 h ov 1 (vals.map wrow) (L19 (lp19 .ready b4 b6 b7 b9 x18) bl e3 e4 e5 b4 b6 b7 b9 bv ov n w)) (hl : vals.length ≤ 2 ^ 30) (hn : (vals.length : Int) ≤ n) :
    Tl (callV (eInv env (k + 1)) (.func (.yield bl) #[] #[]) #[.int .i64 (vals.length : Int), .int .u64 z] h) fun r => r.1 = .bool true ∧ ∃ ov', Sta n0 h0 r.2 (L19 (lp19 .ready b4 b6 b7 b9 x18) bl e3 e4 e5 b4 b6 b7 b9 bv ov' n w) ∧ OwnL Try.prog n0 r.2 ov' 1 ((vals ++ [z]).map wrow) (L19 (lp19 .ready b4 b6 b7 b9 x18) bl e3 e4 e5 b4 b6 b7 b9 bv ov' n w) := by
  have hl0 := S.mem.at_ (i := 0) rfl
  have e : callV (eInv env (k + 1)) (.func (.yield bl) #[] #[]) #[.int .i64 (vals.length : Int), .int .u64 z] h = eInv env (k + 1) (.yield bl) #[] (#[] ++ #[.int .i64 (vals.length : Int), .int .u64 z]) h := rfl
  rw [e, show ((#[] : Array Value) ++ #[.int .i64 (vals.length : Int), .int .u64 z]) = #[.int .i64 (vals.length : Int), .int .u64 z] by simp, inv_yield, R19_lrlrrrr_eq hl0]
  unfold R19_lrlrrrr
  refine Tl.rdBeginX S 0 rfl fun h1 S1 G1 => ?_
  have O1 : OwnL Try.prog n0 h1 ov 1 (vals.map wrow) ((L19 (lp19 .ready b4 b6 b7 b9 x18) bl e3 e4 e5 b4 b6 b7 b9 bv ov n w).set 0 (bl, .loop .busy none 19 (act 35 [(4, pt b4), (6, pt b6), (7, pt b7), (9, pt b9), (18, x18)]).tmps (psOf (cl (cr (cl (cr (cr (cr (cr c19)))))))) (cl (cl (cr (cl (cr (cr (cr (cr c19)))))))) (cr (cl (cr (cl (cr (cr (cr (cr c19))))))))))  :=
    (O.keep fun i hi => G1 i (fun q => hi (by subst q; simp [L19]))).list (by simp [L19])
  have c9 : h1.cell b9 0 = some ov := (Ev.cell_of (S1.mem.at_ (i := 1) rfl)).trans rfl
  have c4 : h1.cell b4 0 = some (.int .i64 n) := (Ev.cell_of (S1.mem.at_ (i := 7) rfl)).trans rfl
  have hlen : pLen Try.prog #[22] ov h1 = some (.int .i64 vals.length) := by
    have := SlV.len O.slV u22 (h' := h1)
    rw [List.length_map] at this
    exact this
  have e1 : ((vals.length : Int) != (vals.length : Int)) = false := by simp
  have e2 : decide ((vals.length : Int) > n) = false := by simp; omega
  obtain ⟨v', h2, p1, S2, O2⟩ := app_L S1 O1 hl z
  unfold pt
  repeat (with_reducible apply Tl.val; focus (simp only [bnd_some, bin_add, bin_sub, bin_mul, bin_lss, bin_leq, bin_gtr, bin_geq, bin_eql, bin_neq, un_not, un_neg, goInt, gd_tt, gd_ff, gd_tf, gd_ft, gd_sk, gd3_tt, gd3_ff, gd3_tf, gd3_ft, gd3_sk, Option.map_some, lt_some, pick_t, pick_f, Nat.zero_add, Bool.not_true, Bool.not_false, Bool.true_and, Bool.false_and, Bool.and_true, Bool.and_false, cond_true, cond_false, beq_self_eq_true, Int.reduceBEq, decide_true, decide_false, ld3, ld4, ld5, ld22, ld25, ld30, conv_int u30 u5, conv_int u5 u3, conv_int u5 u30, conv_int u3 u46, bin_eql_bool u4, bin_neq_bool u4, xor64u, and64u, or64u, or8, and8, ex0, ex1, c9, hlen, e1, c4, e2] <;> with_reducible rfl))
  with_reducible refine Tl.brF ?_
  repeat (with_reducible apply Tl.val; focus (simp only [bnd_some, bin_add, bin_sub, bin_mul, bin_lss, bin_leq, bin_gtr, bin_geq, bin_eql, bin_neq, un_not, un_neg, goInt, gd_tt, gd_ff, gd_tf, gd_ft, gd_sk, gd3_tt, gd3_ff, gd3_tf, gd3_ft, gd3_sk, Option.map_some, lt_some, pick_t, pick_f, Nat.zero_add, Bool.not_true, Bool.not_false, Bool.true_and, Bool.false_and, Bool.and_true, Bool.and_false, cond_true, cond_false, beq_self_eq_true, Int.reduceBEq, decide_true, decide_false, ld3, ld4, ld5, ld22, ld25, ld30, conv_int u30 u5, conv_int u5 u3, conv_int u5 u30, conv_int u3 u46, bin_eql_bool u4, bin_neq_bool u4, xor64u, and64u, or64u, or8, and8, ex0, ex1, c9, bs22] <;> with_reducible rfl))
  refine Tl.val p1 ?_
  obtain ⟨k3, hcs, k2, k1⟩ := slV_cells O2.slV
  refine Tl.storeX S2 1 rfl sz22 hcs (by rw [k3]; simp [k2]) (of_decide_eq_true rfl) fun h3 S3 G3 => ?_
  obtain ⟨h4, q1, S4, G4⟩ := rdEnd_normalX S3 0 rfl
  refine ⟨_, q1, rfl, v', ?_, ?_⟩
  · rw [k3] at S4
    exact S4
  · refine ((O2.keep (h' := h4) fun i hi => ?_).list ?_)
    · rw [G4 i (fun q => hi (by subst q; simp [L19])), G3 i (fun q => hi (by subst q; simp [L19]))]
    · simp [L19]
theorem f19c {k : Nat} {h : AH} {v : Value} {bs : List Nat} (A : Bytes h v (ints bs)) (hb : ∀ x ∈ bs, x < 256) (hbl : bs.length ≤ 2 ^ 40) (n w : Int) (hkn : checkE bs n w = 0 → n.toNat < k) :
    Tl (eInv env (k + 90) (.func 19) #[] #[v, .int .i64 n, .int .i64 w] h) fun r => ∃ o, r.1 = .tuple #[o, .bool true] ∧ Grow h r.2 ∧ OwnB Try.prog h.n r.2 o 1 ((ints (getN bs n w)).map wrow) := by
  rw [F19_call]
  unfold F19
  refine Tl.box (Sta.init h) rfl (by kernel_rfl) fun b4 h1 S1 _ => ?_
  refine Tl.alloc S1 ze22 rfl fun b6 h2 S2 _ => ?_
  refine Tl.alloc S2 ze4 rfl fun b7 h3 S3 _ => ?_
  have c4 : h3.cell b4 0 = some (.int .i64 n) := (Ev.cell_of (S3.mem.at_ (i := 2) rfl)).trans rfl
  repeat (with_reducible apply Tl.val; focus (simp only [bnd_some, bin_add, bin_sub, bin_mul, bin_lss, bin_leq, bin_gtr, bin_geq, bin_eql, bin_neq, un_not, un_neg, goInt, gd_tt, gd_ff, gd_tf, gd_ft, gd_sk, gd3_tt, gd3_ff, gd3_tf, gd3_ft, gd3_sk, Option.map_some, lt_some, pick_t, pick_f, Nat.zero_add, Bool.not_true, Bool.not_false, Bool.true_and, Bool.false_and, Bool.and_true, Bool.and_false, cond_true, cond_false, beq_self_eq_true, Int.reduceBEq, decide_true, decide_false, ld3, ld4, ld5, ld22, ld25, ld30, conv_int u30 u5, conv_int u5 u3, conv_int u5 u30, conv_int u3 u46, bin_eql_bool u4, bin_neq_bool u4, xor64u, and64u, or64u, or8, and8, ex0, ex1, c4] <;> with_reducible rfl))
  with_reducible refine Tl.bind (f22c (k := k + 88) (n := n) (w := w) S3 A.kn.1 A.kn.2) ?_
  rintro ⟨x15, h4⟩ ⟨e3, e4, e5, e15, S4, g4⟩
  simp only at e15 S4
  subst e15
  repeat (with_reducible apply Tl.val; focus (simp only [bnd_some, bin_add, bin_sub, bin_mul, bin_lss, bin_leq, bin_gtr, bin_geq, bin_eql, bin_neq, un_not, un_neg, goInt, gd_tt, gd_ff, gd_tf, gd_ft, gd_sk, gd3_tt, gd3_ff, gd3_tf, gd3_ft, gd3_sk, Option.map_some, lt_some, pick_t, pick_f, Nat.zero_add, Bool.not_true, Bool.not_false, Bool.true_and, Bool.false_and, Bool.and_true, Bool.and_false, cond_true, cond_false, beq_self_eq_true, Int.reduceBEq, decide_true, decide_false, ld3, ld4, ld5, ld22, ld25, ld30, conv_int u30 u5, conv_int u5 u3, conv_int u5 u30, conv_int u3 u46, bin_eql_bool u4, bin_neq_bool u4, xor64u, and64u, or64u, or8, and8, ex0, ex1, fneq] <;> with_reducible rfl))
  with_reducible refine Tl.brF ?_
  refine Tl.alloc S4 ze22 rfl fun b9 h5 S5 _ => ?_
  unfold F19_rlrrrr
  refine Tl.range (R := fun hh => ∃ ov lo, Sta h.n h hh (L19 lo h5.n e3 e4 e5 b4 b6 b7 b9 v ov n w) ∧ OwnL Try.prog h.n hh ov 1 ((ints (getN bs n w)).map wrow) (L19 lo h5.n e3 e4 e5 b4 b6 b7 b9 v ov n w)) (by kernel_rfl) ?_ ?_
  · have S6 : Sta h.n h (h5.alloc (lp19 .ready b4 b6 b7 b9 (eachFn e3 e4 e5))) (L19 (lp19 .ready b4 b6 b7 b9 (eachFn e3 e4 e5)) h5.n e3 e4 e5 b4 b6 b7 b9 v (.slice none 0 0) n w) := S5.alloc _
    rw [show ((#[] : Array Value) ++ #[.func (.yield h5.n) #[] #[]]) = #[.func (.yield h5.n) #[] #[]] by simp]
    let I : Nat → AH → Prop := fun i hh => ∃ ov, Sta h.n h hh (L19 (lp19 .ready b4 b6 b7 b9 (eachFn e3 e4 e5)) h5.n e3 e4 e5 b4 b6 b7 b9 v ov n w) ∧ OwnL Try.prog h.n hh ov 1 ((ints (digs w.toNat (byN bs) i)).map wrow) (L19 (lp19 .ready b4 b6 b7 b9 (eachFn e3 e4 e5)) h5.n e3 e4 e5 b4 b6 b7 b9 v ov n w)
    have hI : ∀ i hh, I i hh → hh.cell e3 0 = some v ∧ hh.cell e4 0 = some (.int .i64 n) ∧ hh.cell e5 0 = some (.int .i64 w) ∧ Bytes hh v (ints bs) := by
      rintro i hh ⟨ov, S, _⟩
      exact ⟨(Ev.cell_of (S.mem.at_ (i := 4) rfl)).trans rfl, (Ev.cell_of (S.mem.at_ (i := 3) rfl)).trans rfl, (Ev.cell_of (S.mem.at_ (i := 2) rfl)).trans rfl, SlV.grow A S.done⟩
    have hr : checkE bs n w = 0 → ∀ i hh, i < n.toNat → I i hh → Tl (callV (eInv env (k + 8 + 80)) (.func (.yield h5.n) #[] #[]) #[.int .i64 (i : Int), .int .u64 (digit w.toNat bs i : Int)] hh) fun r => (r.1 = .bool true ∧ I (i + 1) r.2) ∨ (r.1 = .bool false ∧ (fun _ => False) r.2) := by
      rintro q i hh hi ⟨ov, S, O⟩
      obtain ⟨N, W, rfl, rfl, hN, hW, _, _⟩ := checkE_zero q
      simp only [Int.toNat_natCast] at hi O ⊢
      have hli : (ints (digs W (byN bs) i)).length = i := by rw [ints_len, digs_len]
      have R := r19 (k := k + 8 + 79) (z := (digit W bs i : Int)) S O (by rw [hli]; omega) (by rw [hli]; omega)
      rw [hli] at R
      obtain ⟨r, e1, e2, ov', S', O'⟩ := R
      refine ⟨r, e1, .inl ⟨e2, ov', S', ?_⟩⟩
      have : ints (digs W (byN bs) i) ++ [(digit W bs i : Int)] = ints (digs W (byN bs) (i + 1)) := by
        rw [digs_snoc, ints_append]
        rfl
      simp only [Int.toNat_natCast]
      rw [← this]
      exact O'
    obtain ⟨r, q1, q2⟩ := f29c (k := k + 8) (b3 := e3) (b4 := e4) (b5 := e5) (yv := .func (.yield h5.n) #[] #[]) (J := fun _ => False) (I := I) hb hbl (fun q => by have := hkn q; omega) hI hr ⟨_, S6, .inl ⟨rfl, rfl⟩⟩
    refine ⟨r, q1, ?_⟩
    have fin : ∃ i, I i r.2 ∧ digs w.toNat (byN bs) i = getN bs n w := by
      rcases q2 with ⟨q, q2⟩ | ⟨q, q2 | q2⟩
      · refine ⟨0, q2, ?_⟩
        unfold getN
        rw [if_neg q]
        rfl
      · refine ⟨_, q2, ?_⟩
        unfold getN
        rw [if_pos q]
      · exact q2.elim
    obtain ⟨i, ⟨ov, S, O⟩, hd⟩ := fin
    rw [hd] at O
    have hg := S.mem.at_ (i := 0) rfl
    refine ⟨_, _, _, _, _, _, hg, by simp, ov, _, S.set 0 rfl _, ?_⟩
    exact (O.keep fun i hi => AH.get_set_other _ _ (fun q => hi (by subst q; simp [L19]))).list rfl
  · rintro h6 ⟨ov, lo, S6, O6⟩
    have c9 : h6.cell b9 0 = some ov := (Ev.cell_of (S6.mem.at_ (i := 1) rfl)).trans rfl
    obtain ⟨k3, hcs, k2, k1⟩ := slV_cells O6.slV
    show Tl (Ev.bnd _ _) _
    repeat (with_reducible apply Tl.val; focus (simp only [bnd_some, bin_add, bin_sub, bin_mul, bin_lss, bin_leq, bin_gtr, bin_geq, bin_eql, bin_neq, un_not, un_neg, goInt, gd_tt, gd_ff, gd_tf, gd_ft, gd_sk, gd3_tt, gd3_ff, gd3_tf, gd3_ft, gd3_sk, Option.map_some, lt_some, pick_t, pick_f, Nat.zero_add, Bool.not_true, Bool.not_false, Bool.true_and, Bool.false_and, Bool.and_true, Bool.and_false, cond_true, cond_false, beq_self_eq_true, Int.reduceBEq, decide_true, decide_false, ld3, ld4, ld5, ld22, ld25, ld30, conv_int u30 u5, conv_int u5 u3, conv_int u5 u30, conv_int u3 u46, bin_eql_bool u4, bin_neq_bool u4, xor64u, and64u, or64u, or8, and8, ex0, ex1, c9] <;> with_reducible rfl))
    refine Tl.storeX S6 6 rfl sz22 hcs (by rw [k3]; simp [k2]) (of_decide_eq_true rfl) fun h7 S7 G7 => ?_
    refine Tl.storeX S7 5 rfl sz4 rfl rfl (of_decide_eq_true rfl) fun h8 S8 G8 => ?_
    rw [k3] at S8
    have c6 : h8.cell b6 0 = some ov := (Ev.cell_of (S8.mem.at_ (i := 6) rfl)).trans rfl
    have c7 : h8.cell b7 0 = some (.bool true) := (Ev.cell_of (S8.mem.at_ (i := 5) rfl)).trans rfl
    repeat (with_reducible apply Tl.val; focus (simp only [bnd_some, bin_add, bin_sub, bin_mul, bin_lss, bin_leq, bin_gtr, bin_geq, bin_eql, bin_neq, un_not, un_neg, goInt, gd_tt, gd_ff, gd_tf, gd_ft, gd_sk, gd3_tt, gd3_ff, gd3_tf, gd3_ft, gd3_sk, Option.map_some, lt_some, pick_t, pick_f, Nat.zero_add, Bool.not_true, Bool.not_false, Bool.true_and, Bool.false_and, Bool.and_true, Bool.and_false, cond_true, cond_false, beq_self_eq_true, Int.reduceBEq, decide_true, decide_false, ld3, ld4, ld5, ld22, ld25, ld30, conv_int u30 u5, conv_int u5 u3, conv_int u5 u30, conv_int u3 u46, bin_eql_bool u4, bin_neq_bool u4, xor64u, and64u, or64u, or8, and8, ex0, ex1, c6, c7] <;> with_reducible rfl))
    refine ⟨_, rfl, ov, rfl, S8.done, ?_⟩
    have O8 : OwnL Try.prog h.n h8 ov 1 ((ints (getN bs n w)).map wrow) (L19 lo h5.n e3 e4 e5 b4 b6 b7 b9 v ov n w) :=
      O6.keep fun i hi => by rw [G8 i (fun q => hi (by subst q; simp [L19])), G7 i (fun q => hi (by subst q; simp [L19]))]
    rcases O8 with O8 | ⟨b, hb', _, X⟩
    · exact .inl O8
    · exact .inr ⟨b, hb', X⟩
theorem f5 {k : Nat} {h : AH} {v0 v2 : Value} {l bs : List Nat} (A : Words h v0 (ints l)) (B : Bytes h v2 (ints bs)) (hx : ∀ x ∈ l, x < 18446744073709551616) (hb : ∀ x ∈ bs, x < 256) (wd n : Int) :
    Tl (F5 (eInv env (k + 12000)) (k + 12000) v0 (.int .i64 wd) v2 (.int .i64 n) h) fun r => r.1 = .bool true := by
  unfold F5
  have hv : ∀ h', pLen Try.prog #[22] v0 h' = some (.int .i64 l.length) := fun h' => by have := A.len (h' := h'); rw [ints_len] at this; exact this
  have hw : ∀ h', pLen Try.prog #[25] v2 h' = some (.int .i64 bs.length) := fun h' => by have := B.len (h' := h'); rw [ints_len] at this; exact this
  repeat (with_reducible apply Tl.val; focus (simp only [bnd_some, bin_add, bin_sub, bin_mul, bin_lss, bin_leq, bin_gtr, bin_geq, bin_eql, bin_neq, un_not, un_neg, goInt, gd_tt, gd_ff, gd_tf, gd_ft, gd_sk, gd3_tt, gd3_ff, gd3_tf, gd3_ft, gd3_sk, Option.map_some, lt_some, pick_t, pick_f, Nat.zero_add, Bool.not_true, Bool.not_false, Bool.true_and, Bool.false_and, Bool.and_true, Bool.and_false, cond_true, cond_false, beq_self_eq_true, Int.reduceBEq, decide_true, decide_false, ld3, ld4, ld5, ld22, ld25, ld30, conv_int u30 u5, conv_int u5 u3, conv_int u5 u30, conv_int u3 u46, bin_eql_bool u4, bin_neq_bool u4, xor64u, and64u, or64u, or8, and8, ex0, ex1, lives_call] <;> with_reducible rfl))
  with_reducible refine Tl.brF ?_
  cases q1 : decide ((l.length : Int) > 100)
  case true =>
    repeat (with_reducible apply Tl.val; focus (simp only [bnd_some, bin_add, bin_sub, bin_mul, bin_lss, bin_leq, bin_gtr, bin_geq, bin_eql, bin_neq, un_not, un_neg, goInt, gd_tt, gd_ff, gd_tf, gd_ft, gd_sk, gd3_tt, gd3_ff, gd3_tf, gd3_ft, gd3_sk, Option.map_some, lt_some, pick_t, pick_f, Nat.zero_add, Bool.not_true, Bool.not_false, Bool.true_and, Bool.false_and, Bool.and_true, Bool.and_false, cond_true, cond_false, beq_self_eq_true, Int.reduceBEq, decide_true, decide_false, ld3, ld4, ld5, ld22, ld25, ld30, conv_int u30 u5, conv_int u5 u3, conv_int u5 u30, conv_int u3 u46, bin_eql_bool u4, bin_neq_bool u4, xor64u, and64u, or64u, or8, and8, ex0, ex1, hv, q1] <;> with_reducible rfl))
    with_reducible refine Tl.brT ?_
    exact ⟨_, rfl, rfl⟩
  cases q2 : decide ((bs.length : Int) > 100)
  case true =>
    repeat (with_reducible apply Tl.val; focus (simp only [bnd_some, bin_add, bin_sub, bin_mul, bin_lss, bin_leq, bin_gtr, bin_geq, bin_eql, bin_neq, un_not, un_neg, goInt, gd_tt, gd_ff, gd_tf, gd_ft, gd_sk, gd3_tt, gd3_ff, gd3_tf, gd3_ft, gd3_sk, Option.map_some, lt_some, pick_t, pick_f, Nat.zero_add, Bool.not_true, Bool.not_false, Bool.true_and, Bool.false_and, Bool.and_true, Bool.and_false, cond_true, cond_false, beq_self_eq_true, Int.reduceBEq, decide_true, decide_false, ld3, ld4, ld5, ld22, ld25, ld30, conv_int u30 u5, conv_int u5 u3, conv_int u5 u30, conv_int u3 u46, bin_eql_bool u4, bin_neq_bool u4, xor64u, and64u, or64u, or8, and8, ex0, ex1, hv, q1, hw, q2] <;> with_reducible rfl))
    with_reducible refine Tl.brT ?_
    exact ⟨_, rfl, rfl⟩
  have ll : l.length ≤ 100 := by simp at q1; omega
  have lb : bs.length ≤ 100 := by simp at q2; omega
  -- what comes behind the guard
  have rest : (checkE bs n wd = 0 → n.toNat ≤ 10000) → Tl (bnd (eInv env (k + 12000) (.func 10) #[] #[v0, .int .i64 wd] h) fun x40 =>
    bnd (pExtract x40.1 0) fun x41 =>
    bnd (pExtract x40.1 1) fun x42 =>
    bnd (eInv env (k + 12000) (.func 17) #[] #[v0, .int .i64 wd] x40.2) fun x46 =>
    bnd (pExtract x46.1 0) fun x47 =>
    bnd (pExtract x46.1 1) fun x48 =>
    bnd (eInv env (k + 12000) (.func 13) #[] #[v2, .int .i64 n, .int .i64 wd] x46.2) fun x53 =>
    bnd (pExtract x53.1 0) fun x54 =>
    bnd (pExtract x53.1 1) fun x55 =>
    bnd (eInv env (k + 12000) (.func 18) #[] #[v2, .int .i64 n, .int .i64 wd] x53.2) fun x60 =>
    bnd (pExtract x60.1 0) fun x61 =>
    bnd (pExtract x60.1 1) fun x62 =>
    bnd (eInv env (k + 12000) (.func 19) #[] #[v2, .int .i64 n, .int .i64 wd] x60.2) fun x67 =>
    bnd (pExtract x67.1 0) fun x68 =>
    bnd (pExtract x67.1 1) fun x69 =>
    bnd (eInv env (k + 12000) (.func 12) #[] #[x41, x47] x67.2) fun x72 =>
    bnd (gd (some x72.1) true x72.2 (some (x42, x72.2))) fun x74 =>
    bnd (gd (some x72.1) true x74.2 (some (x48, x74.2))) fun x75 =>
    bnd (gd (some x72.1) true x75.2 (lt (pBin Try.prog Go.BinOp.eql 26 (Go.Operand.tmp 74) (Go.Operand.tmp 75) x74.1 x75.1) x75.2)) fun x76 =>
    bnd (pickV x72.1 x76.1 (Go.Value.bool false)) fun x77 =>
    bnd (gd (some x77) true x76.2 (some (x54, x76.2))) fun x79 =>
    bnd (gd (some x77) true x79.2 (some (x61, x79.2))) fun x80 =>
    bnd (gd (some x77) true x80.2 (eInv env (k + 12000) (.func 14) #[] #[x79.1, x80.1] x80.2)) fun x81 =>
    bnd (pickV x77 x81.1 (Go.Value.bool false)) fun x82 =>
    bnd (gd (some x82) true x81.2 (some (x55, x81.2))) fun x84 =>
    bnd (gd (some x82) true x84.2 (some (x62, x84.2))) fun x85 =>
    bnd (gd (some x82) true x85.2 (lt (pBin Try.prog Go.BinOp.eql 26 (Go.Operand.tmp 84) (Go.Operand.tmp 85) x84.1 x85.1) x85.2)) fun x86 =>
    bnd (pickV x82 x86.1 (Go.Value.bool false)) fun x87 =>
    bnd (gd (some x87) true x86.2 (some (x69, x86.2))) fun x89 =>
    bnd (pickV x87 x89.1 (Go.Value.bool false)) fun x90 =>
    bnd (gd (some x90) true x89.2 (some (x68, x89.2))) fun x92 =>
    bnd (gd (some x90) true x92.2 (some (x61, x92.2))) fun x93 =>
    bnd (gd (some x90) true x93.2 (eInv env (k + 12000) (.func 14) #[] #[x92.1, x93.1] x93.2)) fun x94 =>
    bnd (pickV x90 x94.1 (Go.Value.bool false)) fun x95 =>
    bnd (gd (some x95) true x94.2 (some (v0, x94.2))) fun x97 =>
    bnd (gd (some x95) true x97.2 (eInv env (k + 12000) (.func 15) #[] #[x97.1] x97.2)) fun x98 =>
    bnd (gd (some x95) true x98.2 (some (v0, x98.2))) fun x99 =>
    bnd (gd (some x95) true x99.2 (eInv env (k + 12000) (.func 20) #[] #[x99.1] x99.2)) fun x100 =>
    bnd (gd (some x95) true x100.2 (lt (pBin Try.prog Go.BinOp.eql 3 (Go.Operand.tmp 98) (Go.Operand.tmp 100) x98.1 x100.1) x100.2)) fun x101 =>
    bnd (pickV x95 x101.1 (Go.Value.bool false)) fun x102 =>
    bnd (gd (some x102) true x101.2 (some (.int .i64 n, x101.2))) fun x104 =>
    bnd (gd (some x102) true x104.2 (some (.int .i64 wd, x104.2))) fun x105 =>
    bnd (gd (some x102) true x105.2 (eInv env (k + 12000) (.func 16) #[] #[x104.1, x105.1] x105.2)) fun x106 =>
    bnd (gd (some x102) true x106.2 (some (.int .i64 n, x106.2))) fun x107 =>
    bnd (gd (some x102) true x107.2 (some (.int .i64 wd, x107.2))) fun x108 =>
    bnd (gd (some x102) true x108.2 (eInv env (k + 12000) (.func 21) #[] #[x107.1, x108.1] x108.2)) fun x109 =>
    bnd (gd (some x102) true x109.2 (lt (pBin Try.prog Go.BinOp.eql 3 (Go.Operand.tmp 106) (Go.Operand.tmp 109) x106.1 x109.1) x109.2)) fun x110 =>
    bnd (pickV x102 x110.1 (Go.Value.bool false)) fun x111 =>
    some (x111, x110.2)) (fun r : Value × AH => r.1 = .bool true) := by
    intro hn
    refine Tl.bind (f10g (k := k + 11699) A (by omega) (by omega) hx wd) ?_
    rintro ⟨r1, h1⟩ ⟨x, e1, g1, X⟩
    simp only at e1 g1 X
    subst e1
    repeat (with_reducible apply Tl.val; focus (simp only [bnd_some, bin_add, bin_sub, bin_mul, bin_lss, bin_leq, bin_gtr, bin_geq, bin_eql, bin_neq, un_not, un_neg, goInt, gd_tt, gd_ff, gd_tf, gd_ft, gd_sk, gd3_tt, gd3_ff, gd3_tf, gd3_ft, gd3_sk, Option.map_some, lt_some, pick_t, pick_f, Nat.zero_add, Bool.not_true, Bool.not_false, Bool.true_and, Bool.false_and, Bool.and_true, Bool.and_false, cond_true, cond_false, beq_self_eq_true, Int.reduceBEq, decide_true, decide_false, ld3, ld4, ld5, ld22, ld25, ld30, conv_int u30 u5, conv_int u5 u3, conv_int u5 u30, conv_int u3 u46, bin_eql_bool u4, bin_neq_bool u4, xor64u, and64u, or64u, or8, and8, ex0, ex1] <;> with_reducible rfl))
    refine Tl.bind (f17c (k := k + 11899) (A.grow g1) (by omega) (by omega) hx wd) ?_
    rintro ⟨r2, h2⟩ ⟨y, e2, g2, Y⟩
    simp only at e2 g2 Y
    subst e2
    repeat (with_reducible apply Tl.val; focus (simp only [bnd_some, bin_add, bin_sub, bin_mul, bin_lss, bin_leq, bin_gtr, bin_geq, bin_eql, bin_neq, un_not, un_neg, goInt, gd_tt, gd_ff, gd_tf, gd_ft, gd_sk, gd3_tt, gd3_ff, gd3_tf, gd3_ft, gd3_sk, Option.map_some, lt_some, pick_t, pick_f, Nat.zero_add, Bool.not_true, Bool.not_false, Bool.true_and, Bool.false_and, Bool.and_true, Bool.and_false, cond_true, cond_false, beq_self_eq_true, Int.reduceBEq, decide_true, decide_false, ld3, ld4, ld5, ld22, ld25, ld30, conv_int u30 u5, conv_int u5 u3, conv_int u5 u30, conv_int u3 u46, bin_eql_bool u4, bin_neq_bool u4, xor64u, and64u, or64u, or8, and8, ex0, ex1] <;> with_reducible rfl))
    have G2 := g1.trans g2
    have B2 : Bytes h2 v2 (ints bs) := SlV.grow B G2
    refine Tl.bind (f13c (k := k + 11910) B2 hb (by omega) B2.kn.1 B2.kn.2 n wd (fun q => by have := hn q; omega)) ?_
    rintro ⟨r3, h3⟩ ⟨u, e3, g3, U⟩
    simp only at e3 g3 U
    subst e3
    repeat (with_reducible apply Tl.val; focus (simp only [bnd_some, bin_add, bin_sub, bin_mul, bin_lss, bin_leq, bin_gtr, bin_geq, bin_eql, bin_neq, un_not, un_neg, goInt, gd_tt, gd_ff, gd_tf, gd_ft, gd_sk, gd3_tt, gd3_ff, gd3_tf, gd3_ft, gd3_sk, Option.map_some, lt_some, pick_t, pick_f, Nat.zero_add, Bool.not_true, Bool.not_false, Bool.true_and, Bool.false_and, Bool.and_true, Bool.and_false, cond_true, cond_false, beq_self_eq_true, Int.reduceBEq, decide_true, decide_false, ld3, ld4, ld5, ld22, ld25, ld30, conv_int u30 u5, conv_int u5 u3, conv_int u5 u30, conv_int u3 u46, bin_eql_bool u4, bin_neq_bool u4, xor64u, and64u, or64u, or8, and8, ex0, ex1] <;> with_reducible rfl))
    have B3 : Bytes h3 v2 (ints bs) := SlV.grow B2 g3
    refine Tl.bind (f18c (k := k + 11910) B3 hb (by omega) n wd (fun q => by have := hn q; omega) (by omega)) ?_
    rintro ⟨r4, h4⟩ ⟨v, e4, g4, V⟩
    simp only at e4 g4 V
    subst e4
    repeat (with_reducible apply Tl.val; focus (simp only [bnd_some, bin_add, bin_sub, bin_mul, bin_lss, bin_leq, bin_gtr, bin_geq, bin_eql, bin_neq, un_not, un_neg, goInt, gd_tt, gd_ff, gd_tf, gd_ft, gd_sk, gd3_tt, gd3_ff, gd3_tf, gd3_ft, gd3_sk, Option.map_some, lt_some, pick_t, pick_f, Nat.zero_add, Bool.not_true, Bool.not_false, Bool.true_and, Bool.false_and, Bool.and_true, Bool.and_false, cond_true, cond_false, beq_self_eq_true, Int.reduceBEq, decide_true, decide_false, ld3, ld4, ld5, ld22, ld25, ld30, conv_int u30 u5, conv_int u5 u3, conv_int u5 u30, conv_int u3 u46, bin_eql_bool u4, bin_neq_bool u4, xor64u, and64u, or64u, or8, and8, ex0, ex1] <;> with_reducible rfl))
    have B4 : Bytes h4 v2 (ints bs) := SlV.grow B3 g4
    refine Tl.bind (f19c (k := k + 11910) B4 hb (by omega) n wd (fun q => by have := hn q; omega)) ?_
    rintro ⟨r5, h5⟩ ⟨w, e5, g5, W⟩
    simp only at e5 g5 W
    subst e5
    have X5 : Bytes h5 x (ints (putL l wd)) := SlV.grow X.slV (((g2.trans g3).trans g4).trans g5)
    have Y5 : Bytes h5 y (ints (putL l wd)) := SlV.grow Y.slV ((g3.trans g4).trans g5)
    have U5 : Words h5 u (ints (getN bs n wd)) := SlV.grow U.slV (g4.trans g5)
    have V5 : Words h5 v (ints (getN bs n wd)) := SlV.grow V.slV g5
    have W5 : Words h5 w (ints (getN bs n wd)) := W.slV
    have A5 : Words h5 v0 (ints l) := A.grow (((G2.trans g3).trans g4).trans g5)
    have pll : (putL l wd).length ≤ 1000 := by
      unfold putL
      split
      · rename_i q
        have := (putN_spec wd.toNat l).2.1
        unfold putE at q
        split at q
        · cases q
        · rename_i q'
          have q'' : mayB l.length wd = true := by simpa using q'
          obtain ⟨N, wn, e0, rfl, hN, hW⟩ := mayB_nat q''
          have hm : l.length * wn ≤ 100 * 64 := Nat.mul_le_mul ll hW
          simp only [Int.toNat_natCast] at this ⊢
          omega
      · simp
    have gll : (getN bs n wd).length ≤ 10000 := by
      unfold getN
      split
      · rename_i q
        rw [digs_len]
        exact hn q
      · simp
    have same1 := f12c (k := k + 11999) X5 Y5 (by rw [ints_len]; omega) (by rw [ints_len]; omega)
    have same2 := f14c (k := k + 11999) U5 V5 (by rw [ints_len]; omega) (by rw [ints_len]; omega)
    have same3 := f14c (k := k + 11999) W5 V5 (by rw [ints_len]; omega) (by rw [ints_len]; omega)
    have wid1 := f15c (k := k + 11998) A5 (by omega) hx (by omega)
    have wid2 := f20c (k := k + 11919) A5 (by omega) hx (by omega)
    have siz1 := f16g (k := k + 11998) n wd h5
    have siz2 := f21g (k := k + 11998) n wd h5
    have e1 : (putE l wd == putE l wd) = true := by simp
    have e2 : (checkE bs n wd == checkE bs n wd) = true := by simp
    have e3 : ((widthN l : Int) == (widthN l : Int)) = true := by simp
    have e4 : (sizeE n wd == sizeE n wd) = true := by simp
    repeat (with_reducible apply Tl.val; focus (simp only [bnd_some, bin_add, bin_sub, bin_mul, bin_lss, bin_leq, bin_gtr, bin_geq, bin_eql, bin_neq, un_not, un_neg, goInt, gd_tt, gd_ff, gd_tf, gd_ft, gd_sk, gd3_tt, gd3_ff, gd3_tf, gd3_ft, gd3_sk, Option.map_some, lt_some, pick_t, pick_f, Nat.zero_add, Bool.not_true, Bool.not_false, Bool.true_and, Bool.false_and, Bool.and_true, Bool.and_false, cond_true, cond_false, beq_self_eq_true, Int.reduceBEq, decide_true, decide_false, ld3, ld4, ld5, ld22, ld25, ld30, conv_int u30 u5, conv_int u5 u3, conv_int u5 u30, conv_int u3 u46, bin_eql_bool u4, bin_neq_bool u4, xor64u, and64u, or64u, or8, and8, ex0, ex1, same1, e1, same2, e2, same3, wid1, wid2, e3, siz1, siz2, e4] <;> with_reducible rfl))
    exact ⟨_, rfl, rfl⟩
  cases q3 : decide (n > 10000)
  case false =>
    repeat (with_reducible apply Tl.val; focus (simp only [bnd_some, bin_add, bin_sub, bin_mul, bin_lss, bin_leq, bin_gtr, bin_geq, bin_eql, bin_neq, un_not, un_neg, goInt, gd_tt, gd_ff, gd_tf, gd_ft, gd_sk, gd3_tt, gd3_ff, gd3_tf, gd3_ft, gd3_sk, Option.map_some, lt_some, pick_t, pick_f, Nat.zero_add, Bool.not_true, Bool.not_false, Bool.true_and, Bool.false_and, Bool.and_true, Bool.and_false, cond_true, cond_false, beq_self_eq_true, Int.reduceBEq, decide_true, decide_false, ld3, ld4, ld5, ld22, ld25, ld30, conv_int u30 u5, conv_int u5 u3, conv_int u5 u30, conv_int u3 u46, bin_eql_bool u4, bin_neq_bool u4, xor64u, and64u, or64u, or8, and8, ex0, ex1, hv, q1, hw, q2, q3] <;> with_reducible rfl))
    with_reducible refine Tl.brF ?_
    have : n ≤ 10000 := by simpa using q3
    exact rest fun _ => by omega
  cases q4 : decide (n ≤ 65536)
  case true =>
    repeat (with_reducible apply Tl.val; focus (simp only [bnd_some, bin_add, bin_sub, bin_mul, bin_lss, bin_leq, bin_gtr, bin_geq, bin_eql, bin_neq, un_not, un_neg, goInt, gd_tt, gd_ff, gd_tf, gd_ft, gd_sk, gd3_tt, gd3_ff, gd3_tf, gd3_ft, gd3_sk, Option.map_some, lt_some, pick_t, pick_f, Nat.zero_add, Bool.not_true, Bool.not_false, Bool.true_and, Bool.false_and, Bool.and_true, Bool.and_false, cond_true, cond_false, beq_self_eq_true, Int.reduceBEq, decide_true, decide_false, ld3, ld4, ld5, ld22, ld25, ld30, conv_int u30 u5, conv_int u5 u3, conv_int u5 u30, conv_int u3 u46, bin_eql_bool u4, bin_neq_bool u4, xor64u, and64u, or64u, or8, and8, ex0, ex1, hv, q1, hw, q2, q3, q4] <;> with_reducible rfl))
    with_reducible refine Tl.brT ?_
    exact ⟨_, rfl, rfl⟩
  repeat (with_reducible apply Tl.val; focus (simp only [bnd_some, bin_add, bin_sub, bin_mul, bin_lss, bin_leq, bin_gtr, bin_geq, bin_eql, bin_neq, un_not, un_neg, goInt, gd_tt, gd_ff, gd_tf, gd_ft, gd_sk, gd3_tt, gd3_ff, gd3_tf, gd3_ft, gd3_sk, Option.map_some, lt_some, pick_t, pick_f, Nat.zero_add, Bool.not_true, Bool.not_false, Bool.true_and, Bool.false_and, Bool.and_true, Bool.and_false, cond_true, cond_false, beq_self_eq_true, Int.reduceBEq, decide_true, decide_false, ld3, ld4, ld5, ld22, ld25, ld30, conv_int u30 u5, conv_int u5 u3, conv_int u5 u30, conv_int u3 u46, bin_eql_bool u4, bin_neq_bool u4, xor64u, and64u, or64u, or8, and8, ex0, ex1, hv, q1, hw, q2, q3, q4] <;> with_reducible rfl))
  with_reducible refine Tl.brF ?_
  have h4 : ¬ n ≤ 65536 := by simpa using q4
  refine rest fun q => ?_
  obtain ⟨N, W, rfl, _, hN, _⟩ := checkE_zero q
  omega
end Go.Proofs.Ytodokclcffejfaa.Sh
