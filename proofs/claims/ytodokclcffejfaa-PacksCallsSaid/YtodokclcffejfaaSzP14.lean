/- Left early: the law. -/
import Derived.Test.YtodokclcffejfaaSzP13
set_option linter.unusedVariables false
set_option linter.unusedSimpArgs false
set_option maxRecDepth 100000
namespace Go.Proofs.Ytodokclcffejfaa.Sh
open Go Go.RowKit Go.Proofs.Ev

theorem fneq {b3 b4 b5 : Nat} {y z : Operand} : pBin Try.prog .eql 41 y z (eachFn b3 b4 b5) .nilFunc = some (.bool false) := by kernel_rfl
theorem sameV_slice {a : Option Addr} {n c : Nat} : sameV (.slice a n c) (.slice a n c) = true := by simp [sameV, same0]
theorem slV_same {P : Program} {h : AH} {v : Value} {n : Nat} {rows : List (List Value)} (S : SlV P h v n rows) : sameV v v = true := by
  rcases S with ⟨rfl, _⟩ | ⟨b, o, c, own, rfl, _⟩ <;> exact sameV_slice
theorem Words.cells {h : AH} {v : Value} {l : List Int} (S : Words h v l) : v.cells.toList = [v] := by
  rcases S with ⟨rfl, _⟩ | ⟨b, o, c, own, rfl, _⟩ <;> rfl
theorem words_set (l : List Nat) (i x : Nat) : ((ints l).map wrow).set i [.int .u64 (x : Int)] = (ints (l.set i x)).map wrow := by
  unfold ints
  rw [List.map_map, List.map_map, List.map_set]
  rfl
theorem f7_end {k : Nat} {h0 h : AH} {b12 b8 b5 b4 e3 e4 e5 bl bx : Nat} {lo ox : AO} {v0 bv : Value} {l : List Nat} {early wh N : Nat} {v : Nat} (A : Words h0 v0 (ints l)) (hx : ∀ x ∈ l, x < 18446744073709551616) (ll : l.length ≤ 100) (hw : wh < l.length) (hv : v < 18446744073709551616)
    (S : Sta h0.n h0 h (L9 lo bl e3 e4 e5 b12 bx b8 b5 b4 bv N early early ox v0)) :
    Tl (bnd (pLoad Try.prog 22 (pt b4) h) fun x73 =>
    bnd (eInv env (k + 4000) (.func 11) #[] #[x73] h) fun x74 =>
    bnd (pIndexAddr Try.prog 22 x74.1 (.int .i64 (wh : Int))) fun x78 =>
    bnd (kSt (pStore Try.prog 30 x78 (.int .u64 (v : Int)) x74.2)) fun u_5 =>
    bnd (pLoad Try.prog 22 (pt b4) u_5.2) fun x79 =>
    bnd (eInv env (k + 4000) (.func 11) #[] #[x79] u_5.2) fun x80 =>
    bnd (pBuildSlice Try.prog 22 1 #[(0, .int .u64 (v : Int))] x80.2) fun x82 =>
    bnd (pAppend Try.prog #[22, 22] x80.1 x82.1 x82.2) fun x83 =>
    bnd (eInv env (k + 4000) (.func 15) #[] #[x83.1] x83.2) fun x84 =>
    bnd (eInv env (k + 4000) (.func 10) #[] #[x74.1, x84.1] x84.2) fun x88 =>
    bnd (pExtract x88.1 0) fun x89 =>
    bnd (pExtract x88.1 1) fun x90 =>
    bnd (pLen Try.prog #[22] x74.1 x88.2) fun x94 =>
    bnd (eInv env (k + 4000) (.func 13) #[] #[x89, x94, x84.1] x88.2) fun x96 =>
    bnd (pExtract x96.1 0) fun x97 =>
    bnd (pExtract x96.1 1) fun x98 =>
    bnd (pLoad Try.prog 3 (pt b12) x96.2) fun x99 =>
    bnd (pLoad Try.prog 3 (pt b5) x96.2) fun x100 =>
    bnd (pBin Try.prog Go.BinOp.eql 3 (Go.Operand.tmp 99) (Go.Operand.tmp 100) x99 x100) fun x101 =>
    bnd (gd (some x101) true x96.2 (some (x90, x96.2))) fun x103 =>
    bnd (gd (some x101) true x103.2 (lt (pBin Try.prog Go.BinOp.eql 26 (Go.Operand.tmp 103) (Go.Operand.const (Go.Value.int Go.IntKind.i64 0)) x103.1 (Go.Value.int Go.IntKind.i64 0)) x103.2)) fun x104 =>
    bnd (pickV x101 x104.1 (Go.Value.bool false)) fun x105 =>
    bnd (gd (some x105) true x104.2 (some (x98, x104.2))) fun x107 =>
    bnd (gd (some x105) true x107.2 (lt (pBin Try.prog Go.BinOp.eql 26 (Go.Operand.tmp 107) (Go.Operand.const (Go.Value.int Go.IntKind.i64 0)) x107.1 (Go.Value.int Go.IntKind.i64 0)) x107.2)) fun x108 =>
    bnd (pickV x105 x108.1 (Go.Value.bool false)) fun x109 =>
    bnd (gd (some x109) true x108.2 (some (x97, x108.2))) fun x111 =>
    bnd (gd (some x109) true x111.2 (some (x74.1, x111.2))) fun x112 =>
    bnd (gd (some x109) true x112.2 (eInv env (k + 4000) (.func 14) #[] #[x111.1, x112.1] x112.2)) fun x113 =>
    bnd (pickV x109 x113.1 (Go.Value.bool false)) fun x114 =>
    bnd (kSt (pStore Try.prog 4 (pt b8) x114 x113.2)) fun u_6 =>
    bnd (pLoad Try.prog 4 (pt b8) u_6.2) fun q0 =>
    some (q0, u_6.2)) (fun r : Value × AH => r.1 = .bool true) := by
  have c4 : h.cell b4 0 = some v0 := (Ev.cell_of (S.mem.at_ (i := 8) rfl)).trans rfl
  unfold pt
  repeat (with_reducible apply Tl.val; focus (simp only [bnd_some, bin_add, bin_sub, bin_mul, bin_lss, bin_leq, bin_gtr, bin_geq, bin_eql, bin_neq, un_not, un_neg, goInt, gd_tt, gd_ff, gd_tf, gd_ft, gd_sk, gd3_tt, gd3_ff, gd3_tf, gd3_ft, gd3_sk, Option.map_some, lt_some, pick_t, pick_f, Nat.zero_add, Bool.not_true, Bool.not_false, Bool.true_and, Bool.false_and, Bool.and_true, Bool.and_false, cond_true, cond_false, beq_self_eq_true, Int.reduceBEq, decide_true, decide_false, ld3, ld4, ld5, ld22, ld25, ld30, conv_int u30 u5, conv_int u5 u3, conv_int u5 u30, bin_eql_bool u4, bin_neq_bool u4, xor64u, and64u, or64u, or8, and8, ex0, ex1, c4] <;> with_reducible rfl))
  with_reducible refine Tl.bind (f11c (k := k + 3999) (A.grow S.done) (by rw [ints_len]; omega)) ?_
  rintro ⟨o, h1⟩ ⟨bo, X, hbo, g1⟩
  simp only at X g1
  have hfr := S.fresh hbo
  have S1 := S.call g1
  have hlen : ((ints l).map wrow).length = l.length := by rw [List.length_map, ints_len]
  obtain ⟨cs, ec, hg, hfit, hset⟩ := X.setRow (i := wh) (r := [.int .u64 (v : Int)]) (by rw [hlen]; exact hw) rfl
  have S2 := S1.add (Nat.le_trans S.size hbo) hfr hg
  have hia : pIndexAddr Try.prog 22 o (.int .i64 (wh : Int)) = some (.pointer (some ⟨bo, wh * 1, none⟩)) := by
    rw [X.form]
    refine (indexAddr_slice u22 sz30 (by omega) (by rw [hlen]; omega)).trans ?_
    simp
  repeat (with_reducible apply Tl.val; focus (simp only [bnd_some, bin_add, bin_sub, bin_mul, bin_lss, bin_leq, bin_gtr, bin_geq, bin_eql, bin_neq, un_not, un_neg, goInt, gd_tt, gd_ff, gd_tf, gd_ft, gd_sk, gd3_tt, gd3_ff, gd3_tf, gd3_ft, gd3_sk, Option.map_some, lt_some, pick_t, pick_f, Nat.zero_add, Bool.not_true, Bool.not_false, Bool.true_and, Bool.false_and, Bool.and_true, Bool.and_false, cond_true, cond_false, beq_self_eq_true, Int.reduceBEq, decide_true, decide_false, ld3, ld4, ld5, ld22, ld25, ld30, conv_int u30 u5, conv_int u5 u3, conv_int u5 u30, bin_eql_bool u4, bin_neq_bool u4, xor64u, and64u, or64u, or8, and8, ex0, ex1, hia] <;> with_reducible rfl))
  refine Tl.storeX S2 0 rfl sz30 rfl rfl hfit fun h2 S3 G2 => ?_
  have X2 := hset h2 (S3.mem.at_ (i := 0) rfl)
  rw [words_set] at X2
  have c4' : h2.cell b4 0 = some v0 := (Ev.cell_of (S3.mem.at_ (i := 9) rfl)).trans rfl
  repeat (with_reducible apply Tl.val; focus (simp only [bnd_some, bin_add, bin_sub, bin_mul, bin_lss, bin_leq, bin_gtr, bin_geq, bin_eql, bin_neq, un_not, un_neg, goInt, gd_tt, gd_ff, gd_tf, gd_ft, gd_sk, gd3_tt, gd3_ff, gd3_tf, gd3_ft, gd3_sk, Option.map_some, lt_some, pick_t, pick_f, Nat.zero_add, Bool.not_true, Bool.not_false, Bool.true_and, Bool.false_and, Bool.and_true, Bool.and_false, cond_true, cond_false, beq_self_eq_true, Int.reduceBEq, decide_true, decide_false, ld3, ld4, ld5, ld22, ld25, ld30, conv_int u30 u5, conv_int u5 u3, conv_int u5 u30, bin_eql_bool u4, bin_neq_bool u4, xor64u, and64u, or64u, or8, and8, ex0, ex1, c4'] <;> with_reducible rfl))
  with_reducible refine Tl.bind (f11c (k := k + 3999) (A.grow S3.done) (by rw [ints_len]; omega)) ?_
  rintro ⟨o2, h3⟩ ⟨bo2, Y, hbo2, g3⟩
  simp only at Y g3
  repeat (with_reducible apply Tl.val; focus (simp only [bnd_some, bin_add, bin_sub, bin_mul, bin_lss, bin_leq, bin_gtr, bin_geq, bin_eql, bin_neq, un_not, un_neg, goInt, gd_tt, gd_ff, gd_tf, gd_ft, gd_sk, gd3_tt, gd3_ff, gd3_tf, gd3_ft, gd3_sk, Option.map_some, lt_some, pick_t, pick_f, Nat.zero_add, Bool.not_true, Bool.not_false, Bool.true_and, Bool.false_and, Bool.and_true, Bool.and_false, cond_true, cond_false, beq_self_eq_true, Int.reduceBEq, decide_true, decide_false, ld3, ld4, ld5, ld22, ld25, ld30, conv_int u30 u5, conv_int u5 u3, conv_int u5 u30, bin_eql_bool u4, bin_neq_bool u4, xor64u, and64u, or64u, or8, and8, ex0, ex1, bs22] <;> with_reducible rfl))
  have B1 := slV_one (P := Try.prog) (h := h3) (e := 30) (n := 1) (r := [.int .u64 (v : Int)]) rfl
  have Y1 := Y.keep ((Grow.alloc h3 (.cells [.int .u64 (v : Int)] 30 true)).2 _ Y.lie.lt)
  obtain ⟨o3, h4, b', p1, p2, p3, p4⟩ := append_own app22 Y1 B1 (by simp [hlen]; omega) rfl (n0 := h2.n) hbo2
  with_reducible refine Tl.val p1 ?_
  have g4 : Grow h2 h4 := (g3.trans (Grow.alloc _ _)).trans' p4
  have e4 : ((ints l).map wrow ++ [[Value.int IntKind.u64 (v : Int)]]) = (ints (l ++ [v])).map wrow := by simp [ints, wrow]
  rw [e4] at p2
  have W4 : Words h4 o3 (ints (l ++ [v])) := p2.slV
  have hx2 : ∀ x ∈ l ++ [v], x < 18446744073709551616 := fun x hq => by
    rcases List.mem_append.1 hq with hq | hq
    · exact hx x hq
    · simp at hq; omega
  have wid := f15c (k := k + 3998) W4 (by simp; omega) hx2 (by simp; omega)
  have w64 := width64 hx2
  repeat (with_reducible apply Tl.val; focus (simp only [bnd_some, bin_add, bin_sub, bin_mul, bin_lss, bin_leq, bin_gtr, bin_geq, bin_eql, bin_neq, un_not, un_neg, goInt, gd_tt, gd_ff, gd_tf, gd_ft, gd_sk, gd3_tt, gd3_ff, gd3_tf, gd3_ft, gd3_sk, Option.map_some, lt_some, pick_t, pick_f, Nat.zero_add, Bool.not_true, Bool.not_false, Bool.true_and, Bool.false_and, Bool.and_true, Bool.and_false, cond_true, cond_false, beq_self_eq_true, Int.reduceBEq, decide_true, decide_false, ld3, ld4, ld5, ld22, ld25, ld30, conv_int u30 u5, conv_int u5 u3, conv_int u5 u30, bin_eql_bool u4, bin_neq_bool u4, xor64u, and64u, or64u, or8, and8, ex0, ex1, wid] <;> with_reducible rfl))
  have S4 := S3.call g4
  have X4 := X2.keep (g4.2 _ X2.lie.lt)
  have M4 : Words h4 o (ints (l.set wh v)) := X4.slV
  have hx3 : ∀ x ∈ l.set wh v, x < 18446744073709551616 := fun x hq => by
    rcases List.mem_or_eq_of_mem_set hq with hq | rfl
    · exact hx x hq
    · exact hv
  have wset : widthN (l.set wh v) ≤ widthN (l ++ [v]) := by
    rw [width_le]
    have := (width_le (l ++ [v]) (widthN (l ++ [v]))).1 (Nat.le_refl _)
    intro x hq
    rcases List.mem_or_eq_of_mem_set hq with hq | rfl
    · exact this x (by simp [hq])
    · exact this x (by simp)
  have lset : (l.set wh v).length = l.length := List.length_set
  with_reducible refine Tl.bind (f10g (k := k + 3699) M4 (by omega) (by omega) hx3 (widthN (l ++ [v]) : Int)) ?_
  rintro ⟨r5, h5⟩ ⟨z, e5, g5, Z⟩
  simp only at e5 g5 Z
  have pe := putE_of (l := l.set wh v) (by omega) w64 wset
  have pl : putL (l.set wh v) (widthN (l ++ [v]) : Int) = putN (widthN (l ++ [v])) (l.set wh v) := by unfold putL; rw [if_pos pe]; simp
  rw [pe] at e5
  rw [pl] at Z
  subst e5
  have ZB : Bytes h5 z (ints (putN (widthN (l ++ [v])) (l.set wh v))) := Z.slV
  obtain ⟨s1, s2, s3⟩ := putN_spec (widthN (l ++ [v])) (l.set wh v)
  obtain ⟨t1, t2⟩ := there (l := l.set wh v) (by omega) w64 wset
  have hm : (l.set wh v).length * widthN (l ++ [v]) ≤ 100 * 64 := Nat.mul_le_mul (by omega) w64
  have ml : ∀ h', pLen Try.prog #[22] o h' = some (.int .i64 (l.set wh v).length) := fun h' => by have := M4.len (h' := h'); rw [ints_len] at this; exact this
  repeat (with_reducible apply Tl.val; focus (simp only [bnd_some, bin_add, bin_sub, bin_mul, bin_lss, bin_leq, bin_gtr, bin_geq, bin_eql, bin_neq, un_not, un_neg, goInt, gd_tt, gd_ff, gd_tf, gd_ft, gd_sk, gd3_tt, gd3_ff, gd3_tf, gd3_ft, gd3_sk, Option.map_some, lt_some, pick_t, pick_f, Nat.zero_add, Bool.not_true, Bool.not_false, Bool.true_and, Bool.false_and, Bool.and_true, Bool.and_false, cond_true, cond_false, beq_self_eq_true, Int.reduceBEq, decide_true, decide_false, ld3, ld4, ld5, ld22, ld25, ld30, conv_int u30 u5, conv_int u5 u3, conv_int u5 u30, bin_eql_bool u4, bin_neq_bool u4, xor64u, and64u, or64u, or8, and8, ex0, ex1, ml] <;> with_reducible rfl))
  with_reducible refine Tl.bind (f13c (k := k + 3910) ZB s3 (by omega) ZB.kn.1 ZB.kn.2 ((l.set wh v).length : Int) (widthN (l ++ [v]) : Int) (fun _ => by simp; omega)) ?_
  rintro ⟨r6, h6⟩ ⟨y, e6, g6, Y6⟩
  simp only at e6 g6 Y6
  rw [t1] at e6
  rw [t2] at Y6
  subst e6
  have Y6W : Words h6 y (ints (l.set wh v)) := Y6.slV
  have same := f14c (k := k + 3999) Y6W (M4.grow (g5.trans g6)) (by rw [ints_len]; omega) (by rw [ints_len]; omega)
  have S6 := S4.call (g5.trans g6)
  have c12 : h6.cell b12 0 = some (.int .i64 (early : Int)) := (Ev.cell_of (S6.mem.at_ (i := 2) rfl)).trans rfl
  have c5 : h6.cell b5 0 = some (.int .i64 (early : Int)) := (Ev.cell_of (S6.mem.at_ (i := 8) rfl)).trans rfl
  have ee : ((early : Int) == (early : Int)) = true := by simp
  have z0 : ((0 : Int) == 0) = true := rfl
  repeat (with_reducible apply Tl.val; focus (simp only [bnd_some, bin_add, bin_sub, bin_mul, bin_lss, bin_leq, bin_gtr, bin_geq, bin_eql, bin_neq, un_not, un_neg, goInt, gd_tt, gd_ff, gd_tf, gd_ft, gd_sk, gd3_tt, gd3_ff, gd3_tf, gd3_ft, gd3_sk, Option.map_some, lt_some, pick_t, pick_f, Nat.zero_add, Bool.not_true, Bool.not_false, Bool.true_and, Bool.false_and, Bool.and_true, Bool.and_false, cond_true, cond_false, beq_self_eq_true, Int.reduceBEq, decide_true, decide_false, ld3, ld4, ld5, ld22, ld25, ld30, conv_int u30 u5, conv_int u5 u3, conv_int u5 u30, bin_eql_bool u4, bin_neq_bool u4, xor64u, and64u, or64u, or8, and8, ex0, ex1, c12, c5, ee, z0, same] <;> with_reducible rfl))
  refine Tl.store S6 7 rfl sz4 rfl rfl (of_decide_eq_true rfl) fun h7 S7 => ?_
  have c8 : h7.cell b8 0 = some (.bool true) := (Ev.cell_of (S7.mem.at_ (i := 7) rfl)).trans rfl
  repeat (with_reducible apply Tl.val; focus (simp only [bnd_some, bin_add, bin_sub, bin_mul, bin_lss, bin_leq, bin_gtr, bin_geq, bin_eql, bin_neq, un_not, un_neg, goInt, gd_tt, gd_ff, gd_tf, gd_ft, gd_sk, gd3_tt, gd3_ff, gd3_tf, gd3_ft, gd3_sk, Option.map_some, lt_some, pick_t, pick_f, Nat.zero_add, Bool.not_true, Bool.not_false, Bool.true_and, Bool.false_and, Bool.and_true, Bool.and_false, cond_true, cond_false, beq_self_eq_true, Int.reduceBEq, decide_true, decide_false, ld3, ld4, ld5, ld22, ld25, ld30, conv_int u30 u5, conv_int u5 u3, conv_int u5 u30, bin_eql_bool u4, bin_neq_bool u4, xor64u, and64u, or64u, or8, and8, ex0, ex1, c8] <;> with_reducible rfl))
  exact ⟨_, rfl, rfl⟩
theorem f7 {k : Nat} {h : AH} {v0 : Value} {l : List Nat} (A : Words h v0 (ints l)) (hx : ∀ x ∈ l, x < 18446744073709551616) (ea wi : Int) (v : Nat) (hv : v < 18446744073709551616) :
    Tl (F7 (eInv env (k + 4000)) (k + 4000) v0 (.int .i64 ea) (.int .i64 wi) (.int .u64 (v : Int)) h) fun r => r.1 = .bool true := by
  unfold F7
  have hvl : ∀ h', pLen Try.prog #[22] v0 h' = some (.int .i64 l.length) := fun h' => by have := A.len (h' := h'); simpa [ints] using this
  refine Tl.box (Sta.init h) A.kn.1 (by kernel_rfl) fun b4 h1 S1 _ => ?_
  refine Tl.box S1 rfl (by kernel_rfl) fun b5 h2 S2 _ => ?_
  refine Tl.alloc S2 ze4 rfl fun b8 h3 S3 _ => ?_
  rw [A.cells] at S3
  have c4 : h3.cell b4 0 = some v0 := (Ev.cell_of (S3.mem.at_ (i := 2) rfl)).trans rfl
  repeat (with_reducible apply Tl.val; focus (simp only [bnd_some, bin_add, bin_sub, bin_mul, bin_lss, bin_leq, bin_gtr, bin_geq, bin_eql, bin_neq, un_not, un_neg, goInt, gd_tt, gd_ff, gd_tf, gd_ft, gd_sk, gd3_tt, gd3_ff, gd3_tf, gd3_ft, gd3_sk, Option.map_some, lt_some, pick_t, pick_f, Nat.zero_add, Bool.not_true, Bool.not_false, Bool.true_and, Bool.false_and, Bool.and_true, Bool.and_false, cond_true, cond_false, beq_self_eq_true, Int.reduceBEq, decide_true, decide_false, ld3, ld4, ld5, ld22, ld25, ld30, conv_int u30 u5, conv_int u5 u3, conv_int u5 u30, bin_eql_bool u4, bin_neq_bool u4, xor64u, and64u, or64u, or8, and8, ex0, ex1, lives_call] <;> with_reducible rfl))
  with_reducible refine Tl.brF ?_
  have out : ∀ {h' : AH} {L : List (Nat × AO)} {e : TypeId} (S : Sta h.n h h' ((b8, .cells [.bool true] e true) :: L)), Tl (bnd (pLoad Try.prog 4 (.pointer (some ⟨b8, 0, none⟩)) h') fun q0 => some (q0, h')) (fun r : Value × AH => r.1 = .bool true) := by
    intro h' L e S
    have c8 : h'.cell b8 0 = some (.bool true) := (Ev.cell_of (S.mem.at_ (i := 0) rfl)).trans rfl
    repeat (with_reducible apply Tl.val; focus (simp only [bnd_some, bin_add, bin_sub, bin_mul, bin_lss, bin_leq, bin_gtr, bin_geq, bin_eql, bin_neq, un_not, un_neg, goInt, gd_tt, gd_ff, gd_tf, gd_ft, gd_sk, gd3_tt, gd3_ff, gd3_tf, gd3_ft, gd3_sk, Option.map_some, lt_some, pick_t, pick_f, Nat.zero_add, Bool.not_true, Bool.not_false, Bool.true_and, Bool.false_and, Bool.and_true, Bool.and_false, cond_true, cond_false, beq_self_eq_true, Int.reduceBEq, decide_true, decide_false, ld3, ld4, ld5, ld22, ld25, ld30, conv_int u30 u5, conv_int u5 u3, conv_int u5 u30, bin_eql_bool u4, bin_neq_bool u4, xor64u, and64u, or64u, or8, and8, ex0, ex1, c8] <;> with_reducible rfl))
    exact ⟨_, rfl, rfl⟩
  cases q1 : decide ((l.length : Int) > 100)
  case true =>
    repeat (with_reducible apply Tl.val; focus (simp only [bnd_some, bin_add, bin_sub, bin_mul, bin_lss, bin_leq, bin_gtr, bin_geq, bin_eql, bin_neq, un_not, un_neg, goInt, gd_tt, gd_ff, gd_tf, gd_ft, gd_sk, gd3_tt, gd3_ff, gd3_tf, gd3_ft, gd3_sk, Option.map_some, lt_some, pick_t, pick_f, Nat.zero_add, Bool.not_true, Bool.not_false, Bool.true_and, Bool.false_and, Bool.and_true, Bool.and_false, cond_true, cond_false, beq_self_eq_true, Int.reduceBEq, decide_true, decide_false, ld3, ld4, ld5, ld22, ld25, ld30, conv_int u30 u5, conv_int u5 u3, conv_int u5 u30, bin_eql_bool u4, bin_neq_bool u4, xor64u, and64u, or64u, or8, and8, ex0, ex1, c4, hvl, q1] <;> with_reducible rfl))
    with_reducible refine Tl.brT ?_
    refine Tl.store S3 0 rfl sz4 rfl rfl (of_decide_eq_true rfl) fun h4 S4 => ?_
    exact out S4
  cases q2 : ((l.length : Int) == 0)
  case true =>
    repeat (with_reducible apply Tl.val; focus (simp only [bnd_some, bin_add, bin_sub, bin_mul, bin_lss, bin_leq, bin_gtr, bin_geq, bin_eql, bin_neq, un_not, un_neg, goInt, gd_tt, gd_ff, gd_tf, gd_ft, gd_sk, gd3_tt, gd3_ff, gd3_tf, gd3_ft, gd3_sk, Option.map_some, lt_some, pick_t, pick_f, Nat.zero_add, Bool.not_true, Bool.not_false, Bool.true_and, Bool.false_and, Bool.and_true, Bool.and_false, cond_true, cond_false, beq_self_eq_true, Int.reduceBEq, decide_true, decide_false, ld3, ld4, ld5, ld22, ld25, ld30, conv_int u30 u5, conv_int u5 u3, conv_int u5 u30, bin_eql_bool u4, bin_neq_bool u4, xor64u, and64u, or64u, or8, and8, ex0, ex1, c4, hvl, q1, q2] <;> with_reducible rfl))
    with_reducible refine Tl.brT ?_
    refine Tl.store S3 0 rfl sz4 rfl rfl (of_decide_eq_true rfl) fun h4 S4 => ?_
    exact out S4
  have ll : l.length ≤ 100 := by simp at q1; omega
  have lp : 0 < l.length := by
    have : ¬ ((l.length : Int) = 0) := by simpa using q2
    omega
  repeat (with_reducible apply Tl.val; focus (simp only [bnd_some, bin_add, bin_sub, bin_mul, bin_lss, bin_leq, bin_gtr, bin_geq, bin_eql, bin_neq, un_not, un_neg, goInt, gd_tt, gd_ff, gd_tf, gd_ft, gd_sk, gd3_tt, gd3_ff, gd3_tf, gd3_ft, gd3_sk, Option.map_some, lt_some, pick_t, pick_f, Nat.zero_add, Bool.not_true, Bool.not_false, Bool.true_and, Bool.false_and, Bool.and_true, Bool.and_false, cond_true, cond_false, beq_self_eq_true, Int.reduceBEq, decide_true, decide_false, ld3, ld4, ld5, ld22, ld25, ld30, conv_int u30 u5, conv_int u5 u3, conv_int u5 u30, bin_eql_bool u4, bin_neq_bool u4, xor64u, and64u, or64u, or8, and8, ex0, ex1, c4, hvl, q1, q2] <;> with_reducible rfl))
  with_reducible refine Tl.brF ?_
  repeat (with_reducible apply Tl.val; focus (simp only [bnd_some, bin_add, bin_sub, bin_mul, bin_lss, bin_leq, bin_gtr, bin_geq, bin_eql, bin_neq, un_not, un_neg, goInt, gd_tt, gd_ff, gd_tf, gd_ft, gd_sk, gd3_tt, gd3_ff, gd3_tf, gd3_ft, gd3_sk, Option.map_some, lt_some, pick_t, pick_f, Nat.zero_add, Bool.not_true, Bool.not_false, Bool.true_and, Bool.false_and, Bool.and_true, Bool.and_false, cond_true, cond_false, beq_self_eq_true, Int.reduceBEq, decide_true, decide_false, ld3, ld4, ld5, ld22, ld25, ld30, conv_int u30 u5, conv_int u5 u3, conv_int u5 u30, bin_eql_bool u4, bin_neq_bool u4, xor64u, and64u, or64u, or8, and8, ex0, ex1, c4] <;> with_reducible rfl))
  have w64 := width64 hx
  with_reducible refine Tl.bind (f10g (k := k + 3699) (A.grow S3.done) (by omega) (by omega) hx ((64 : Nat) : Int)) ?_
  rintro ⟨r4, h4⟩ ⟨x, e4, g4, X⟩
  simp only at e4 g4 X
  have pe := putE_of (l := l) (by omega) (Nat.le_refl 64) w64
  have pl : putL l ((64 : Nat) : Int) = putN 64 l := by unfold putL; rw [if_pos pe]; rfl
  rw [pe] at e4
  rw [pl] at X
  subst e4
  obtain ⟨s1, s2, s3⟩ := putN_spec 64 l
  obtain ⟨t1, t2⟩ := there (l := l) (by omega) (Nat.le_refl 64) w64
  obtain ⟨bx, hbx, X⟩ : ∃ b, h3.n ≤ b ∧ SlX Try.prog h4 x 1 b ((ints (putN 64 l)).map brow) := by
    rcases X with ⟨_, hn⟩ | X
    · have := congrArg List.length hn
      simp [ints] at this
      rw [this] at s2
      simp at s2
      omega
    · exact X
  obtain ⟨⟨cs, ec, hgx, _⟩, _⟩ := X.lie
  have S4 := (S3.call g4).add (Nat.le_trans S3.size hbx) (S3.fresh hbx) hgx
  have XB : Bytes h4 x (ints (putN 64 l)) := X.slV
  have c4' : h4.cell b4 0 = some v0 := (Ev.cell_of (S4.mem.at_ (i := 3) rfl)).trans rfl
  repeat (with_reducible apply Tl.val; focus (simp only [bnd_some, bin_add, bin_sub, bin_mul, bin_lss, bin_leq, bin_gtr, bin_geq, bin_eql, bin_neq, un_not, un_neg, goInt, gd_tt, gd_ff, gd_tf, gd_ft, gd_sk, gd3_tt, gd3_ff, gd3_tf, gd3_ft, gd3_sk, Option.map_some, lt_some, pick_t, pick_f, Nat.zero_add, Bool.not_true, Bool.not_false, Bool.true_and, Bool.false_and, Bool.and_true, Bool.and_false, cond_true, cond_false, beq_self_eq_true, Int.reduceBEq, decide_true, decide_false, ld3, ld4, ld5, ld22, ld25, ld30, conv_int u30 u5, conv_int u5 u3, conv_int u5 u30, bin_eql_bool u4, bin_neq_bool u4, xor64u, and64u, or64u, or8, and8, ex0, ex1, c4', hvl] <;> with_reducible rfl))
  with_reducible refine Tl.bind (f22c (k := k + 3999) (n := (l.length : Int)) (w := ((64 : Nat) : Int)) S4 XB.kn.1 XB.kn.2) ?_
  rintro ⟨x39, h5⟩ ⟨e3, e4, e5, e39, S5, g5⟩
  simp only at e39 S5
  subst e39
  have z0 : ((0 : Int) != 0) = false := rfl
  have c5 : h5.cell b5 0 = some (.int .i64 ea) := (Ev.cell_of (S5.mem.at_ (i := 5) rfl)).trans rfl
  have c45 : h5.cell b4 0 = some v0 := (Ev.cell_of (S5.mem.at_ (i := 6) rfl)).trans rfl
  obtain ⟨early, hea, pick1⟩ := f9g (k := k + 3999) lp (by omega) ea h5
  obtain ⟨wh, hwh, pick2⟩ := f9g (k := k + 3999) lp (by omega) wi h5
  repeat (with_reducible apply Tl.val; focus (simp only [bnd_some, bin_add, bin_sub, bin_mul, bin_lss, bin_leq, bin_gtr, bin_geq, bin_eql, bin_neq, un_not, un_neg, goInt, gd_tt, gd_ff, gd_tf, gd_ft, gd_sk, gd3_tt, gd3_ff, gd3_tf, gd3_ft, gd3_sk, Option.map_some, lt_some, pick_t, pick_f, Nat.zero_add, Bool.not_true, Bool.not_false, Bool.true_and, Bool.false_and, Bool.and_true, Bool.and_false, cond_true, cond_false, beq_self_eq_true, Int.reduceBEq, decide_true, decide_false, ld3, ld4, ld5, ld22, ld25, ld30, conv_int u30 u5, conv_int u5 u3, conv_int u5 u30, bin_eql_bool u4, bin_neq_bool u4, xor64u, and64u, or64u, or8, and8, ex0, ex1, z0, fneq] <;> with_reducible rfl))
  with_reducible refine Tl.brF ?_
  repeat (with_reducible apply Tl.val; focus (simp only [bnd_some, bin_add, bin_sub, bin_mul, bin_lss, bin_leq, bin_gtr, bin_geq, bin_eql, bin_neq, un_not, un_neg, goInt, gd_tt, gd_ff, gd_tf, gd_ft, gd_sk, gd3_tt, gd3_ff, gd3_tf, gd3_ft, gd3_sk, Option.map_some, lt_some, pick_t, pick_f, Nat.zero_add, Bool.not_true, Bool.not_false, Bool.true_and, Bool.false_and, Bool.and_true, Bool.and_false, cond_true, cond_false, beq_self_eq_true, Int.reduceBEq, decide_true, decide_false, ld3, ld4, ld5, ld22, ld25, ld30, conv_int u30 u5, conv_int u5 u3, conv_int u5 u30, bin_eql_bool u4, bin_neq_bool u4, xor64u, and64u, or64u, or8, and8, ex0, ex1, c5, c45, hvl, pick1, pick2] <;> with_reducible rfl))
  refine Tl.store S5 5 rfl sz3 rfl rfl (of_decide_eq_true rfl) fun h6 S6 => ?_
  have sv := slV_same (P := Try.prog) (n := 1) (rows := (ints l).map wrow) A
  have svl : sameV (.int .i64 (l.length : Int)) (.int .i64 (l.length : Int)) = true := sameV_int
  with_reducible refine Tl.chk ?_ ?_
  · simp only [ld22, c45, hvl, sv, svl, sameO_some, Bool.and_self, Bool.not_true, Bool.or_true, Bool.true_and, Bool.false_or, Bool.and_true]
  refine Tl.alloc S6 ze3 rfl fun b12 h7 S7 _ => ?_
  refine Tl.store S7 0 rfl sz3 rfl rfl (of_decide_eq_true rfl) fun h8 S8 => ?_
  unfold F7_rlrrrrrrrr
  have GetB : ∀ hh, hh.get bx = some (.cells cs ec true) → Bytes hh x (ints (putN 64 l)) := fun hh hg => (X.keep (hg.trans hgx.symm)).slV
  refine Tl.rangeE (R1 := fun _ => False) (R2 := fun hh => ∃ lo, Sta h.n h hh (L9 lo h8.n e3 e4 e5 b12 bx b8 b5 b4 x l.length early early (.cells cs ec true) v0)) 0 (by kernel_rfl) (by kernel_rfl) ?_ ?_ ?_
  · have S9 : Sta h.n h (h8.alloc (lp7 .ready none wh (.int .u64 (v : Int)) b4 b5 b8 b12 (eachFn e3 e4 e5))) (L9 (lp7 .ready none wh (.int .u64 (v : Int)) b4 b5 b8 b12 (eachFn e3 e4 e5)) h8.n e3 e4 e5 b12 bx b8 b5 b4 x l.length 0 early (.cells cs ec true) v0) := S8.alloc _
    rw [show ((#[] : Array Value) ++ #[.func (.yield h8.n) #[] #[]]) = #[.func (.yield h8.n) #[] #[]] by simp]
    let I : Nat → AH → Prop := fun i hh => i ≤ early ∧ Sta h.n h hh (L9 (lp7 .ready none wh (.int .u64 (v : Int)) b4 b5 b8 b12 (eachFn e3 e4 e5)) h8.n e3 e4 e5 b12 bx b8 b5 b4 x l.length i early (.cells cs ec true) v0)
    let J : AH → Prop := fun hh => Sta h.n h hh (L9 (lp7 .done (some (.exit 0)) wh (.int .u64 (v : Int)) b4 b5 b8 b12 (eachFn e3 e4 e5)) h8.n e3 e4 e5 b12 bx b8 b5 b4 x l.length early early (.cells cs ec true) v0)
    have hI : ∀ i hh, I i hh → hh.cell e3 0 = some x ∧ hh.cell e4 0 = some (.int .i64 (l.length : Int)) ∧ hh.cell e5 0 = some (.int .i64 ((64 : Nat) : Int)) ∧ Bytes hh x (ints (putN 64 l)) := by
      rintro i hh ⟨_, S⟩
      exact ⟨(Ev.cell_of (S.mem.at_ (i := 4) rfl)).trans rfl, (Ev.cell_of (S.mem.at_ (i := 3) rfl)).trans rfl, (Ev.cell_of (S.mem.at_ (i := 2) rfl)).trans rfl, GetB hh (S.mem.at_ (i := 5) rfl)⟩
    have dig : ∀ i, i < l.length → l[i]? = some (digit 64 (putN 64 l) i) := by
      intro i hi
      have hd : getN (putN 64 l) (l.length : Int) ((64 : Nat) : Int) = digs 64 (byN (putN 64 l)) l.length := by
        unfold getN
        rw [if_pos t1]
        simp
      rw [hd] at t2
      conv => lhs; rw [← t2]
      unfold digs digit
      rw [List.getElem?_map, List.getElem?_range hi]
      rfl
    have hr : checkE (putN 64 l) (l.length : Int) ((64 : Nat) : Int) = 0 → ∀ i hh, i < ((l.length : Int)).toNat → I i hh → Tl (callV (eInv env (k + 3919 + 80)) (.func (.yield h8.n) #[] #[]) #[.int .i64 (i : Int), .int .u64 (digit (((64 : Nat) : Int)).toNat (putN 64 l) i : Int)] hh) fun r => (r.1 = .bool true ∧ I (i + 1) r.2) ∨ (r.1 = .bool false ∧ J r.2) := by
      rintro _ i hh hi ⟨hie, S⟩
      simp only [Int.toNat_natCast] at hi ⊢
      obtain ⟨r, q1, q2⟩ := r7 (k := k + 3919 + 79) S A (dig i hi) hie (by omega)
      refine ⟨r, q1, ?_⟩
      rcases q2 with ⟨q2, q3, q4⟩ | ⟨q2, q3, q4⟩
      · exact .inl ⟨q2, by omega, q4⟩
      · subst q3
        exact .inr ⟨q2, q4⟩
    obtain ⟨r, q1, q2⟩ := f29c (k := k + 3919) (b3 := e3) (b4 := e4) (b5 := e5) (yv := .func (.yield h8.n) #[] #[]) (J := J) (I := I) s3 (by omega) (fun _ => by simp; omega) hI hr ⟨Nat.zero_le _, S9⟩
    refine ⟨r, q1, ?_⟩
    rcases q2 with ⟨q2, _⟩ | ⟨_, q2 | q2⟩
    · exact absurd t1 q2
    · have := q2.1
      simp only [Int.toNat_natCast] at this
      omega
    · have hg := q2.mem.at_ (i := 0) rfl
      exact ⟨_, _, _, _, _, hg, by simp, .inr ⟨rfl, _, q2.set 0 rfl _⟩⟩
  · intro _ hf
    exact hf.elim
  · rintro h9 ⟨lo, S9⟩
    exact f7_end A hx ll hwh hv S9
end Go.Proofs.Ytodokclcffejfaa.Sh
