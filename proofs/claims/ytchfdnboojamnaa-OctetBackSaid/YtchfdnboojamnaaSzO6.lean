/- What the functions of the octet's package come to: 'Of', 'Put' of eight bytes. -/
import Derived.Test.YtchfdnboojamnaaSzO5
import Derived.Test.YtchfdnboojamnaaEv30
set_option linter.unusedVariables false
set_option linter.unusedSimpArgs false
set_option maxRecDepth 100000
namespace Go.Proofs.Ytchfdnboojamnaa.Sh
open Go Go.RowKit Go.Proofs.Ev

def ints (l : List Nat) : List Int := l.map (fun (x : Nat) => (x : Int))
def ofB (l : List Nat) : Nat := l.foldr (fun x a => a * 256 + x) 0
theorem ofB_lt : ∀ (l : List Nat), (∀ x ∈ l, x < 256) → ofB l < 256 ^ l.length := by
  intro l
  induction l with
  | nil => intro _; simp [ofB]
  | cons x l ih =>
    intro h
    have h1 := ih fun y hy => h y (by simp [hy])
    have h2 := h x (by simp)
    have : ofB (x :: l) = ofB l * 256 + x := rfl
    rw [this, List.length_cons, Nat.pow_succ]
    omega
theorem or_nat (a b : Nat) (ha : a < 18446744073709551616) (hb : b < 18446744073709551616) : IntKind.u64.wrap (BitVec.ofInt 64 (a : Int) ||| BitVec.ofInt 64 (b : Int)).toNat = ((a ||| b : Nat) : Int) := by
  rw [BitVec.toNat_or, ofInt_toNat _ (by omega) (by omega), ofInt_toNat _ (by omega) (by omega), Int.toNat_natCast, Int.toNat_natCast]
  have : a ||| b < 2 ^ 64 := Nat.or_lt_two_pow (by simpa using ha) (by simpa using hb)
  rw [wrap_u64]
  have h2 : (2 : Nat) ^ 64 = 18446744073709551616 := by decide
  omega

noncomputable def lpo (st : LoopState) (b2 : Nat) (x9 : Value) : AO := .loop st none 19 (act 18 [(2, .pointer (some ⟨b2, 0, none⟩)), (9, x9)]).tmps (psOf (cl (cr (cl (cr (cr c19)))))) (cl (cl (cr (cl (cr (cr c19)))))) (cr (cl (cr (cl (cr (cr c19))))))
noncomputable def L3 (bl b1 b2 : Nat) (x9 v : Value) (acc : Nat) : List (Nat × AO) := [(bl, lpo .ready b2 x9), (b1, .cells [v] 25 true), (b2, .cells [.int .u64 (acc : Int)] 23 true)]
/-- A round. -/
theorem r19 {k : Nat} {h0 h : AH} {n0 bl b1 b2 : Nat} {x9 v z0 : Value} {acc x : Nat} (S : Sta n0 h0 h (L3 bl b1 b2 x9 v acc)) (ha : acc < 72057594037927936) (hx : x < 256) :
    Tl (callV (eInv env (k + 1)) (.func (.yield bl) #[] #[]) #[z0, .int .u8 (x : Int)] h) fun r => r.1 = .bool true ∧ Sta n0 h0 r.2 (L3 bl b1 b2 x9 v (acc * 256 + x)) := by
  have hl := S.mem.at_ (i := 0) rfl
  have e : callV (eInv env (k + 1)) (.func (.yield bl) #[] #[]) #[z0, .int .u8 (x : Int)] h = eInv env (k + 1) (.yield bl) #[] (#[] ++ #[z0, .int .u8 (x : Int)]) h := rfl
  rw [e, show ((#[] : Array Value) ++ #[z0, .int .u8 (x : Int)]) = #[z0, .int .u8 (x : Int)] by simp, inv_yield, R19_lrlrr_eq hl]
  unfold R19_lrlrr
  refine Tl.rdBegin S 0 rfl fun h1 S1 => ?_
  have c2 : h1.cell b2 0 = some (.int .u64 (acc : Int)) := (Ev.cell_of (S1.mem.at_ (i := 2) rfl)).trans rfl
  have e8 : min (8 : Int).toNat 64 = 8 := by decide
  have w1 : IntKind.u64.wrap ((acc : Int) * 2 ^ 8) = ((acc * 256 : Nat) : Int) := by rw [wrap_u64]; omega
  have w2 : IntKind.u64.wrap ((x : Nat) : Int) = ((x : Nat) : Int) := by rw [wrap_u64]; omega
  have o1 := or_nat (acc * 256) x (by omega) (by omega)
  have o2 : acc * 256 ||| x = acc * 256 + x := by
    have := or_disj x acc 8 (by omega)
    rw [Nat.or_comm]
    have h2 : (2 : Nat) ^ 8 = 256 := by decide
    rw [h2] at this
    rw [this, Nat.add_comm]
  rw [o2] at o1
  repeat (with_reducible apply Tl.val; focus (simp only [bnd_some, bin_add, bin_sub, bin_mul, bin_lss, bin_leq, bin_gtr, bin_geq, bin_eql, bin_neq, un_not, un_neg, goInt, gd_tt, gd_ff, gd_tf, gd_ft, gd_sk, gd3_tt, gd3_ff, gd3_tf, gd3_ft, gd3_sk, Option.map_some, lt_some, pick_t, pick_f, Nat.zero_add, Bool.not_true, Bool.not_false, Bool.true_and, Bool.false_and, Bool.and_true, Bool.and_false, cond_true, cond_false, beq_self_eq_true, Int.reduceBEq, decide_true, decide_false, ld2, ld3, ld5, ld23, ld25, ld47, fa47_0, conv_int u2 u23, conv_int u23 u2, conv_int u23 u5, conv_int u5 u23, bin_eql_bool u4, xor64u, xor64i, and64u, or64u, or8, and8, nil32, ptr32, sl25, nilc, ex0, ex1, c2, shl64u (show (0 : Int) ≤ 8 by decide), e8, w1, w2, o1] <;> with_reducible rfl))
  refine Tl.store S1 2 rfl sz23 rfl rfl (of_decide_eq_true rfl) fun h2 S2 => ?_
  obtain ⟨h3, q1, q2⟩ := rdEnd_normal S2 0 rfl
  refine ⟨_, q1, rfl, ?_⟩
  exact q2
theorem f26_loop {β : Type} {k : Nat} {Q : β → Prop} {h0 : AH} {bl b1 b2 : Nat} {x9 v : Value} {l : List Nat} (A : Bytes h0 v (ints l)) (hl : l.length ≤ 8) (hb : ∀ x ∈ l, x < 256) {ke0 kr : Value → Value → Value → Value → AH → Option β} (m : Nat) :
    ∀ {j : Nat} {h : AH}, m ≤ l.length → m < j → Sta h0.n h0 h (L3 bl b1 b2 x9 v (ofB (l.drop m))) →
      (∀ y3 y h', Sta h0.n h0 h' (L3 bl b1 b2 x9 v (ofB l)) → Tl (ke0 (.func (.yield bl) #[] #[]) (.pointer (some ⟨b1, 0, none⟩)) y3 y h') Q) →
      Tl (F26_lr (eInv env (k + 1)) (k + 1) j (.func (.yield bl) #[] #[]) (.pointer (some ⟨b1, 0, none⟩)) (.int .i64 ((m : Int) - 1)) h ke0 kr) Q := by
  induction m with
  | zero =>
    intro j h hm hj S hk
    obtain ⟨j, rfl⟩ : ∃ q, j = q + 1 := ⟨j - 1, by omega⟩
    simp only [F26_lr]
    have e : decide ((((0 : Nat) : Int) - 1) ≥ 0) = false := by decide
    repeat (with_reducible apply Tl.val; focus (simp only [bnd_some, bin_add, bin_sub, bin_mul, bin_lss, bin_leq, bin_gtr, bin_geq, bin_eql, bin_neq, un_not, un_neg, goInt, gd_tt, gd_ff, gd_tf, gd_ft, gd_sk, gd3_tt, gd3_ff, gd3_tf, gd3_ft, gd3_sk, Option.map_some, lt_some, pick_t, pick_f, Nat.zero_add, Bool.not_true, Bool.not_false, Bool.true_and, Bool.false_and, Bool.and_true, Bool.and_false, cond_true, cond_false, beq_self_eq_true, Int.reduceBEq, decide_true, decide_false, ld2, ld3, ld5, ld23, ld25, ld47, fa47_0, conv_int u2 u23, conv_int u23 u2, conv_int u23 u5, conv_int u5 u23, bin_eql_bool u4, xor64u, xor64i, and64u, or64u, or8, and8, nil32, ptr32, sl25, nilc, ex0, ex1, e] <;> with_reducible rfl))
    with_reducible refine Tl.brF ?_
    exact hk _ _ _ S
  | succ m ih =>
    intro j h hm hj S hk
    obtain ⟨j, rfl⟩ : ∃ q, j = q + 1 := ⟨j - 1, by omega⟩
    have hlt : m < l.length := by omega
    obtain ⟨c, hc⟩ : ∃ c, l[m]? = some c := ⟨_, List.getElem?_eq_getElem hlt⟩
    obtain ⟨b, o, hx, h2⟩ := (A.grow S.done).at_ (i := m) (c := (c : Int)) (by simp [ints, hc])
    have c1 : h.cell b1 0 = some v := (Ev.cell_of (S.mem.at_ (i := 1) rfl)).trans rfl
    simp only [F26_lr]
    have em : (((m + 1 : Nat) : Int) - 1) = (m : Int) := by omega
    rw [em]
    have e : decide ((m : Int) ≥ 0) = true := by simp
    have w1 : IntKind.i64.wrap ((m : Int) - 1) = (m : Int) - 1 := by rw [wrap_i64']; split <;> omega
    have hdl : ∀ x ∈ l.drop (m + 1), x < 256 := fun x hx => hb x (List.mem_of_mem_drop hx)
    have hacc := ofB_lt (l.drop (m + 1)) hdl
    have hacc2 : ofB (l.drop (m + 1)) < 72057594037927936 := by
      have : 256 ^ (l.drop (m + 1)).length ≤ 256 ^ 7 := Nat.pow_le_pow_right (by decide) (by simp; omega)
      have h7 : (256 : Nat) ^ 7 = 72057594037927936 := by decide
      omega
    repeat (with_reducible apply Tl.val; focus (simp only [bnd_some, bin_add, bin_sub, bin_mul, bin_lss, bin_leq, bin_gtr, bin_geq, bin_eql, bin_neq, un_not, un_neg, goInt, gd_tt, gd_ff, gd_tf, gd_ft, gd_sk, gd3_tt, gd3_ff, gd3_tf, gd3_ft, gd3_sk, Option.map_some, lt_some, pick_t, pick_f, Nat.zero_add, Bool.not_true, Bool.not_false, Bool.true_and, Bool.false_and, Bool.and_true, Bool.and_false, cond_true, cond_false, beq_self_eq_true, Int.reduceBEq, decide_true, decide_false, ld2, ld3, ld5, ld23, ld25, ld47, fa47_0, conv_int u2 u23, conv_int u23 u2, conv_int u23 u5, conv_int u5 u23, bin_eql_bool u4, xor64u, xor64i, and64u, or64u, or8, and8, nil32, ptr32, sl25, nilc, ex0, ex1, e] <;> with_reducible rfl))
    with_reducible refine Tl.brT ?_
    repeat (with_reducible apply Tl.val; focus (simp only [bnd_some, bin_add, bin_sub, bin_mul, bin_lss, bin_leq, bin_gtr, bin_geq, bin_eql, bin_neq, un_not, un_neg, goInt, gd_tt, gd_ff, gd_tf, gd_ft, gd_sk, gd3_tt, gd3_ff, gd3_tf, gd3_ft, gd3_sk, Option.map_some, lt_some, pick_t, pick_f, Nat.zero_add, Bool.not_true, Bool.not_false, Bool.true_and, Bool.false_and, Bool.and_true, Bool.and_false, cond_true, cond_false, beq_self_eq_true, Int.reduceBEq, decide_true, decide_false, ld2, ld3, ld5, ld23, ld25, ld47, fa47_0, conv_int u2 u23, conv_int u23 u2, conv_int u23 u5, conv_int u5 u23, bin_eql_bool u4, xor64u, xor64i, and64u, or64u, or8, and8, nil32, ptr32, sl25, nilc, ex0, ex1, c1, hx, h2] <;> with_reducible rfl))
    refine Tl.seq (r19 (k := k) S hacc2 (hb c (List.mem_of_getElem? hc))) ?_
    rintro ⟨r, h3⟩ ⟨e3, S3⟩
    simp only at e3 S3
    subst e3
    repeat (with_reducible apply Tl.val; focus (simp only [bnd_some, bin_add, bin_sub, bin_mul, bin_lss, bin_leq, bin_gtr, bin_geq, bin_eql, bin_neq, un_not, un_neg, goInt, gd_tt, gd_ff, gd_tf, gd_ft, gd_sk, gd3_tt, gd3_ff, gd3_tf, gd3_ft, gd3_sk, Option.map_some, lt_some, pick_t, pick_f, Nat.zero_add, Bool.not_true, Bool.not_false, Bool.true_and, Bool.false_and, Bool.and_true, Bool.and_false, cond_true, cond_false, beq_self_eq_true, Int.reduceBEq, decide_true, decide_false, ld2, ld3, ld5, ld23, ld25, ld47, fa47_0, conv_int u2 u23, conv_int u23 u2, conv_int u23 u5, conv_int u5 u23, bin_eql_bool u4, xor64u, xor64i, and64u, or64u, or8, and8, nil32, ptr32, sl25, nilc, ex0, ex1] <;> with_reducible rfl))
    with_reducible refine Tl.brF ?_
    repeat (with_reducible apply Tl.val; focus (simp only [bnd_some, bin_add, bin_sub, bin_mul, bin_lss, bin_leq, bin_gtr, bin_geq, bin_eql, bin_neq, un_not, un_neg, goInt, gd_tt, gd_ff, gd_tf, gd_ft, gd_sk, gd3_tt, gd3_ff, gd3_tf, gd3_ft, gd3_sk, Option.map_some, lt_some, pick_t, pick_f, Nat.zero_add, Bool.not_true, Bool.not_false, Bool.true_and, Bool.false_and, Bool.and_true, Bool.and_false, cond_true, cond_false, beq_self_eq_true, Int.reduceBEq, decide_true, decide_false, ld2, ld3, ld5, ld23, ld25, ld47, fa47_0, conv_int u2 u23, conv_int u23 u2, conv_int u23 u5, conv_int u5 u23, bin_eql_bool u4, xor64u, xor64i, and64u, or64u, or8, and8, nil32, ptr32, sl25, nilc, ex0, ex1, w1] <;> with_reducible rfl))
    refine ih (by omega) (by omega) ?_ hk
    have hd : l.drop m = c :: l.drop (m + 1) := by
      rw [List.drop_eq_getElem_cons hlt]
      rw [List.getElem?_eq_getElem hlt] at hc
      cases hc; rfl
    rw [hd]
    exact S3
/-- 'Of'. -/
theorem f19 {k : Nat} {h : AH} {v : Value} {l : List Nat} (A : Bytes h v (ints l)) (hl : l.length ≤ 8) (hb : ∀ x ∈ l, x < 256) (hk : kn v = true) (h1v : oneCell v = true) :
    Tl (F19 (eInv env (k + 20)) (k + 20) v h) fun r => r.1 = .int .u64 (ofB l : Int) ∧ Grow h r.2 := by
  unfold F19
  have il : (ints l).length = l.length := by simp [ints]
  have hv : ∀ h', pLen Try.prog #[25] v h' = some (.int .i64 l.length) := fun h' => by have := A.len (h' := h'); simpa [ints] using this
  refine Tl.alloc (Sta.init h) ze23 rfl fun b2 h1 S1 _ => ?_
  have e : decide ((l.length : Int) > 8) = false := by simp; omega
  repeat (with_reducible apply Tl.val; focus (simp only [bnd_some, bin_add, bin_sub, bin_mul, bin_lss, bin_leq, bin_gtr, bin_geq, bin_eql, bin_neq, un_not, un_neg, goInt, gd_tt, gd_ff, gd_tf, gd_ft, gd_sk, gd3_tt, gd3_ff, gd3_tf, gd3_ft, gd3_sk, Option.map_some, lt_some, pick_t, pick_f, Nat.zero_add, Bool.not_true, Bool.not_false, Bool.true_and, Bool.false_and, Bool.and_true, Bool.and_false, cond_true, cond_false, beq_self_eq_true, Int.reduceBEq, decide_true, decide_false, ld2, ld3, ld5, ld23, ld25, ld47, fa47_0, conv_int u2 u23, conv_int u23 u2, conv_int u23 u5, conv_int u5 u23, bin_eql_bool u4, xor64u, xor64i, and64u, or64u, or8, and8, nil32, ptr32, sl25, nilc, ex0, ex1, hv, e] <;> with_reducible rfl))
  with_reducible refine Tl.brF ?_
  have hcells : v.cells.toList = [v] := by
    cases v <;> first | rfl | (cases h1v; done)
  have B : Tl (eInv env (k + 20) (.func 23) #[] #[v] h1) fun r => ∃ b1, r.1 = .func (.func 26) #[] #[.pointer (some ⟨b1, 0, none⟩)] ∧ Sta h.n h r.2 [(b1, .cells [v] 25 true), (b2, .cells [.int .u64 0] 23 true)] := by
    rw [F23_call]
    unfold F23
    refine Tl.box S1 hk (by rw [sz25]; rfl) fun b1 h2 S2 _ => ?_
    rw [hcells] at S2
    have mf : pMakeFunc (Go.Fn.func 26) #[] #[.pointer (some ⟨b1, 0, none⟩)] = some (.func (.func 26) #[] #[.pointer (some ⟨b1, 0, none⟩)]) := rfl
    repeat (with_reducible apply Tl.val; focus (simp only [bnd_some, bin_add, bin_sub, bin_mul, bin_lss, bin_leq, bin_gtr, bin_geq, bin_eql, bin_neq, un_not, un_neg, goInt, gd_tt, gd_ff, gd_tf, gd_ft, gd_sk, gd3_tt, gd3_ff, gd3_tf, gd3_ft, gd3_sk, Option.map_some, lt_some, pick_t, pick_f, Nat.zero_add, Bool.not_true, Bool.not_false, Bool.true_and, Bool.false_and, Bool.and_true, Bool.and_false, cond_true, cond_false, beq_self_eq_true, Int.reduceBEq, decide_true, decide_false, ld2, ld3, ld5, ld23, ld25, ld47, fa47_0, conv_int u2 u23, conv_int u23 u2, conv_int u23 u5, conv_int u5 u23, bin_eql_bool u4, xor64u, xor64i, and64u, or64u, or8, and8, nil32, ptr32, sl25, nilc, ex0, ex1, mf] <;> with_reducible rfl))
    exact ⟨_, rfl, b1, rfl, S2⟩
  with_reducible refine Tl.seq B ?_
  rintro ⟨x9, h2⟩ ⟨b1, e9, S2⟩
  simp only at e9 S2
  subst e9
  unfold F19_rlrr
  refine Tl.range (R := fun hh => ∃ o, Sta h.n h hh [(h2.n, o), (b1, .cells [v] 25 true), (b2, .cells [.int .u64 (ofB l : Int)] 23 true)]) (by kernel_rfl) ?_ ?_
  · have S3 : Sta h.n h (h2.alloc (lpo .ready b2 (.func (.func 26) #[] #[.pointer (some ⟨b1, 0, none⟩)]))) (L3 h2.n b1 b2 (.func (.func 26) #[] #[.pointer (some ⟨b1, 0, none⟩)]) v 0) := S2.alloc _
    have c1 : (h2.alloc (lpo .ready b2 (.func (.func 26) #[] #[.pointer (some ⟨b1, 0, none⟩)]))).cell b1 0 = some v := (Ev.cell_of (S3.mem.at_ (i := 1) rfl)).trans rfl
    rw [show ((#[] : Array Value) ++ #[.func (.yield h2.n) #[] #[]]) = #[.func (.yield h2.n) #[] #[]] by simp, inv_cap (E := env) (f := 26) (by kernel_rfl), show ((#[.func (.yield h2.n) #[] #[]] : Array Value) ++ #[.pointer (some ⟨b1, 0, none⟩)]) = #[.func (.yield h2.n) #[] #[], .pointer (some ⟨b1, 0, none⟩)] by simp, F26_eq]
    unfold F26
    have w0 : IntKind.i64.wrap ((l.length : Int) - 1) = (l.length : Int) - 1 := by rw [wrap_i64']; split <;> omega
    have c1' := c1
    unfold lpo at c1'
    repeat (with_reducible apply Tl.val; focus (simp only [bnd_some, bin_add, bin_sub, bin_mul, bin_lss, bin_leq, bin_gtr, bin_geq, bin_eql, bin_neq, un_not, un_neg, goInt, gd_tt, gd_ff, gd_tf, gd_ft, gd_sk, gd3_tt, gd3_ff, gd3_tf, gd3_ft, gd3_sk, Option.map_some, lt_some, pick_t, pick_f, Nat.zero_add, Bool.not_true, Bool.not_false, Bool.true_and, Bool.false_and, Bool.and_true, Bool.and_false, cond_true, cond_false, beq_self_eq_true, Int.reduceBEq, decide_true, decide_false, ld2, ld3, ld5, ld23, ld25, ld47, fa47_0, conv_int u2 u23, conv_int u23 u2, conv_int u23 u5, conv_int u5 u23, bin_eql_bool u4, xor64u, xor64i, and64u, or64u, or8, and8, nil32, ptr32, sl25, nilc, ex0, ex1, c1', hv, w0] <;> with_reducible rfl))
    refine f26_loop (k := k + 18) A hl hb l.length (Nat.le_refl _) (by omega) (by rw [List.drop_length]; exact S3) fun y3 y h3 S4 => ?_
    have hg := S4.mem.at_ (i := 0) rfl
    exact ⟨_, rfl, _, _, _, _, _, _, hg, by simp, _, S4.set 0 rfl _⟩
  · rintro h3 ⟨o, S4⟩
    have c2 : h3.cell b2 0 = some (.int .u64 (ofB l : Int)) := (Ev.cell_of (S4.mem.at_ (i := 2) rfl)).trans rfl
    show Tl (Ev.bnd _ _) _
    repeat (with_reducible apply Tl.val; focus (simp only [bnd_some, bin_add, bin_sub, bin_mul, bin_lss, bin_leq, bin_gtr, bin_geq, bin_eql, bin_neq, un_not, un_neg, goInt, gd_tt, gd_ff, gd_tf, gd_ft, gd_sk, gd3_tt, gd3_ff, gd3_tf, gd3_ft, gd3_sk, Option.map_some, lt_some, pick_t, pick_f, Nat.zero_add, Bool.not_true, Bool.not_false, Bool.true_and, Bool.false_and, Bool.and_true, Bool.and_false, cond_true, cond_false, beq_self_eq_true, Int.reduceBEq, decide_true, decide_false, ld2, ld3, ld5, ld23, ld25, ld47, fa47_0, conv_int u2 u23, conv_int u23 u2, conv_int u23 u5, conv_int u5 u23, bin_eql_bool u4, xor64u, xor64i, and64u, or64u, or8, and8, nil32, ptr32, sl25, nilc, ex0, ex1, c2] <;> with_reducible rfl))
    refine Tl.store S4 2 rfl sz23 rfl rfl (of_decide_eq_true rfl) fun h5 S5 => ?_
    have c3 : h5.cell b2 0 = some (.int .u64 (ofB l : Int)) := (Ev.cell_of (S5.mem.at_ (i := 2) rfl)).trans rfl
    repeat (with_reducible apply Tl.val; focus (simp only [bnd_some, bin_add, bin_sub, bin_mul, bin_lss, bin_leq, bin_gtr, bin_geq, bin_eql, bin_neq, un_not, un_neg, goInt, gd_tt, gd_ff, gd_tf, gd_ft, gd_sk, gd3_tt, gd3_ff, gd3_tf, gd3_ft, gd3_sk, Option.map_some, lt_some, pick_t, pick_f, Nat.zero_add, Bool.not_true, Bool.not_false, Bool.true_and, Bool.false_and, Bool.and_true, Bool.and_false, cond_true, cond_false, beq_self_eq_true, Int.reduceBEq, decide_true, decide_false, ld2, ld3, ld5, ld23, ld25, ld47, fa47_0, conv_int u2 u23, conv_int u23 u2, conv_int u23 u5, conv_int u5 u23, bin_eql_bool u4, xor64u, xor64i, and64u, or64u, or8, and8, nil32, ptr32, sl25, nilc, ex0, ex1, c3] <;> with_reducible rfl))
    exact ⟨_, rfl, rfl, S5.done⟩
end Go.Proofs.Ytchfdnboojamnaa.Sh
