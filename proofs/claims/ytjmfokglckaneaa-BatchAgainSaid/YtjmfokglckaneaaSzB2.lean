/- 'BatchAgain' comes to true. -/
import Derived.Test.YtjmfokglckaneaaSzB1
import Derived.Test.YtjmfokglckaneaaSzWk
import Derived.Test.YtjmfokglckaneaaSzWm
set_option linter.unusedVariables false
set_option linter.unusedSimpArgs false
set_option maxRecDepth 100000
namespace Go.Proofs.Ytjmfokglckaneaa.Sh
open Go Go.RowKit Go.Proofs.Ev
theorem base_B2 : type_of% (And.intro @ld3 (And.intro @ld37 (And.intro @ld45 (And.intro @ld23 (And.intro @ld39 (And.intro @Nat.add_zero (And.intro @ex2_0 (@ex2_1)))))))) := And.intro @ld3 (And.intro @ld37 (And.intro @ld45 (And.intro @ld23 (And.intro @ld39 (And.intro @Nat.add_zero (And.intro @ex2_0 (@ex2_1)))))))
theorem bdCh (kd : Int) (a : Option Addr) (m c : Nat) : pBuild Try.prog 39 #[(0, .int .i64 kd), (2, .slice a m c)] = some (.agg (chrow kd (.slice none 0 0) (.slice a m c) (.slice none 0 0) (.slice none 0 0)).toArray) := by kernel_rfl
theorem bsCh (kd : Int) (a1 a2 a3 a4 : Option Addr) (m1 m2 m3 m4 c1 c2 c3 c4 : Nat) (h : AH) : pBuildSlice Try.prog 24 1 #[(0, .agg (chrow kd (.slice a1 m1 c1) (.slice a2 m2 c2) (.slice a3 m3 c3) (.slice a4 m4 c4)).toArray)] h =
    some (.slice (some ⟨h.n, 0, none⟩) 1 1, h.alloc (.cells (chrow kd (.slice a1 m1 c1) (.slice a2 m2 c2) (.slice a3 m3 c3) (.slice a4 m4 c4)) 39 true)) := by kernel_rfl
theorem tellNot (row : List CellD) (x : Bool) : tellB row (opN 8) [x] = !x := by cases x <;> rfl
theorem Preds.slice {h : AH} {v : Value} {l : List NodeD} (S : Preds h v l) : ∃ a m c, v = .slice a m c := by
  obtain ⟨rows, X, _⟩ := S
  obtain ⟨a, c, e, _⟩ := X.form
  exact ⟨a, _, c, e⟩
theorem light_parts {l : List NodeD} (h : lightP l = true) : l.length ≤ 20 ∧ ∀ nd ∈ l, nd.parts.length ≤ 20 := by
  unfold lightP at h
  rw [Bool.and_eq_true, List.all_eq_true] at h
  refine ⟨of_decide_eq_true h.2, fun nd hnd => ?_⟩
  have := h.1 nd hnd
  unfold lightN at this
  rw [Bool.and_eq_true] at this
  exact of_decide_eq_true this.1
theorem light_rows {l : List (List CellD)} {m : Int} (h : lightRs l m = true) : (l.length : Int) ≤ m ∧ ∀ r ∈ l, r.length ≤ 20 := by
  unfold lightRs at h
  rw [Bool.and_eq_true, List.all_eq_true] at h
  refine ⟨of_decide_eq_true h.2, fun r hr => ?_⟩
  have := h.1 r hr
  unfold lightR at this
  rw [Bool.and_eq_true] at this
  exact of_decide_eq_true this.2
theorem rows_nil (h : AH) : Rows h (.slice none 0 0) [] := ⟨[], .inl (.inl ⟨rfl, rfl⟩), trivial⟩
def delOf (l : List NodeD) : ChangeD := ⟨2, [], l, [], []⟩
theorem changeF_del {h : AH} {pv : Value} {l : List NodeD} (P : Preds h pv l) : ChangeF h (.slice none 0 0) pv (.slice none 0 0) (.slice none 0 0) (delOf l) := ⟨rows_nil h, P, .inl (.inl ⟨rfl, rfl⟩), .inl (.inl ⟨rfl, rfl⟩)⟩
theorem chS_del {N : Nat} {l : List NodeD} (h : l.length < N) : ChS N (delOf l) := ⟨by show 0 < N; omega, fun r hr => by simp [delOf] at hr, h, by show 0 < N; omega, by show 0 < N; omega⟩
theorem slV_mem {n0 : Nat} {h0 h : AH} {L : List (Nat × AO)} {O : List OS} {v : Value} {n : Nat} {rows : List (List Value)} (S : Stt Try.prog n0 h0 h L O) (hm : (v, n, rows) ∈ O) : SlV Try.prog h v n rows := by
  obtain ⟨i, hi⟩ := List.mem_iff_getElem?.1 hm
  exact S.slV i hi
theorem rows_mem {n0 : Nat} {h0 h : AH} {L : List (Nat × AO)} {O : List OS} {v : Value} {rs : RS} (S : Stt Try.prog n0 h0 h L O) (hm : ∀ o ∈ owns rs, o ∈ O) (hv : SlV Try.prog h v 1 (outs rs)) : Rows h v (rowsOf rs) := by
  refine ⟨rs.map (·.1), ?_, all2_map fun p hp => ownRow S (hm _ (List.mem_map.2 ⟨p, hp, rfl⟩))⟩
  rw [List.map_map]
  exact hv.z
theorem chOk_del {l : List NodeD} (hl : l.length ≤ 900) (hp : ∀ nd ∈ l, nd.parts.length ≤ 900) : ChOk (delOf l) := ⟨by simp [delOf], fun r hr => by simp [delOf] at hr, hl, hp, by simp [delOf], by simp [delOf]⟩
theorem meant_not {l : List NodeD} (hn : nonneg l) (r : List CellD) : meant (delOf (joinL 8 [l])) r = !meant (delOf l) r := by
  unfold meant delOf
  have := holds_join r 8 [l] (fun x hx => by simp at hx; rw [hx]; exact hn)
  rw [this]
  exact tellNot r _
theorem one_del (rows : List (List CellD)) (l : List NodeD) : oneR rows (delOf l) = rows.filter fun r => !meant (delOf l) r := rfl
theorem oneN_del (rows : List (List CellD)) (l : List NodeD) : oneN rows (delOf l) = (rows.filter (meant (delOf l))).length := rfl
theorem again_rows (rows : List (List CellD)) (l : List NodeD) : oneR (oneR rows (delOf l)) (delOf l) = oneR rows (delOf l) := by
  rw [one_del, one_del, List.filter_filter]
  simp
theorem again_none (rows : List (List CellD)) (l : List NodeD) : oneN (oneR rows (delOf l)) (delOf l) = 0 := by
  rw [oneN_del, one_del, List.filter_filter]
  simp
theorem del_sum (rows : List (List CellD)) (l : List NodeD) : oneN rows (delOf l) + (oneR rows (delOf l)).length = rows.length := by
  rw [oneN_del, one_del]
  exact filt_len _ rows
theorem not_sum (rows : List (List CellD)) {l : List NodeD} (hn : nonneg l) : oneN rows (delOf l) + oneN rows (delOf (joinL 8 [l])) = rows.length := by
  rw [oneN_del, oneN_del, show meant (delOf (joinL 8 [l])) = fun r => !meant (delOf l) r from funext (meant_not hn)]
  exact filt_len _ rows
theorem nonneg_of {cols : List ColD} {l : List NodeD} (h : predOk cols l = true) : l.length ≤ 64 ∧ nonneg l ∧ ∀ nd ∈ l, ∀ n ∈ nd.parts, 0 ≤ n ∧ n ≤ 64 := by
  obtain ⟨_, h2, F⟩ := predOk_iff.1 h
  have key : ∀ nd ∈ l, ∀ n ∈ nd.parts, 0 ≤ n ∧ n ≤ 64 := fun nd hnd n hn => by
    have := validF_mem l 0 F.valid n (List.mem_flatMap.2 ⟨nd, hnd, hn⟩)
    omega
  exact ⟨h2, fun nd hnd n hn => (key nd hnd n hn).1, key⟩
theorem f5 {k : Nat} {h : AH} {cv rv pv : Value} {cols : List ColD} {rows : List (List CellD)} {l : List NodeD} (C : Cols h cv cols) (R : Rows h rv rows) (PL : Preds h pv l)
    (hcl : cols.length ≤ 9223372036854775807 ∧ cols.length < k) (hrl : rows.length ≤ 9223372036854775807 ∧ rows.length < k) (hr : ∀ r ∈ rows, r.length ≤ 9223372036854775807 ∧ r.length < k) (hpl : l.length ≤ 9223372036854775807 ∧ l.length < k) :
    Tl (F5 (eInv env (k + 110000)) (k + 110000) cv rv pv h) fun r => r.1 = .bool true := by
  unfold F5
  have done : ∀ h' : AH, Tl (some (Value.bool true, h')) fun r => r.1 = Value.bool true := fun h' => ⟨_, rfl, rfl⟩
  have hlv := lives_call (k := k + 109999) (h := h)
  obtain ⟨pa, pm, pc, epv⟩ := PL.slice
  subst epv
  repeat (first | (with_reducible apply Tl.val; focus (simp (disch := omega) only [coreA, Int.reduceBEq, base_B2, hlv, bdCh] <;> with_reducible rfl)) | (with_reducible first | refine Tl.brT ?_ | refine Tl.brF ?_ | refine Tl.gd_on ?_ | refine Tl.gd3_on ?_) | ((with_reducible first | apply Tl.brC | apply Tl.gdC | apply Tl.gd3C); focus (simp (disch := omega) only [coreA, Int.reduceBEq, base_B2, hlv, bdCh] <;> with_reducible rfl)))
  refine Tl.alloc' (Stt.init h) ze39 (by rfl) fun b7 h1 S1 _ => ?_
  refine Tl.store' S1 0 rfl sz39 rfl rfl (by simp [Value.cells]) fun h2 S2 _ => ?_
  have S2 : Stt Try.prog h.n h h2 [(b7, .cells (chrow 2 (.slice none 0 0) (.slice pa pm pc) (.slice none 0 0) (.slice none 0 0)) 39 true)] [] := S2
  have r7 : h2.row b7 0 5 = some (chrow 2 (.slice none 0 0) (.slice pa pm pc) (.slice none 0 0) (.slice none 0 0)) := S2.row 0 rfl rfl
  simp only [G5_4]
  repeat (first | (with_reducible apply Tl.val; focus (simp (disch := omega) only [coreA, Int.reduceBEq, base_B2, r7, bsCh] <;> with_reducible rfl)) | (with_reducible first | refine Tl.brT ?_ | refine Tl.brF ?_ | refine Tl.gd_on ?_ | refine Tl.gd3_on ?_) | ((with_reducible first | apply Tl.brC | apply Tl.gdC | apply Tl.gd3C); focus (simp (disch := omega) only [coreA, Int.reduceBEq, base_B2, r7, bsCh] <;> with_reducible rfl)))
  have S3 := S2.alloc (.cells (chrow 2 (.slice none 0 0) (.slice pa pm pc) (.slice none 0 0) (.slice none 0 0)) 39 true)
  generalize hh3 : h2.alloc (.cells (chrow 2 (.slice none 0 0) (.slice pa pm pc) (.slice none 0 0) (.slice none 0 0)) 39 true) = h3 at S3 ⊢
  have B : Changes h3 (.slice (some ⟨h2.n, 0, none⟩) 1 1) [delOf l] := ⟨[chrow 2 (.slice none 0 0) (.slice pa pm pc) (.slice none 0 0) (.slice none 0 0)], (S3.lit 0 rfl rfl).z, ⟨_, _, _, _, rfl, changeF_del (PL.grow S3.grow)⟩, trivial⟩
  have p1 := f9e (k := k + 109996) (C.grow S3.grow) (R.grow S3.grow) B ⟨hcl.1, by omega⟩ ⟨hrl.1, by omega⟩ (fun r hx => ⟨(hr r hx).1, by have := (hr r hx).2; omega⟩) ⟨by simp, by rw [List.length_singleton]; omega⟩ (fun c hc => by
    rw [List.mem_singleton] at hc
    subst hc
    exact ⟨chS_del (by omega), chS_del (by omega)⟩)
  cases q1 : lightL cols rows [delOf l] with
  | false =>
    rw [q1] at p1
    repeat (first | (with_reducible apply Tl.val; focus (simp (disch := omega) only [coreA, Int.reduceBEq, base_B2, p1] <;> with_reducible rfl)) | (with_reducible first | refine Tl.brT ?_ | refine Tl.brF ?_ | refine Tl.gd_on ?_ | refine Tl.gd3_on ?_) | ((with_reducible first | apply Tl.brC | apply Tl.gdC | apply Tl.gd3C); focus (simp (disch := omega) only [coreA, Int.reduceBEq, base_B2, p1] <;> with_reducible rfl)))
    exact done _
  | true =>
  rw [q1] at p1
  have hlight := q1
  unfold lightL lightB lightCh at hlight
  simp only [List.all_cons, List.all_nil, Bool.and_eq_true, Bool.and_true] at hlight
  obtain ⟨l1, l2, ⟨_, l4, _⟩, _⟩ := hlight
  obtain ⟨rl, rls⟩ := light_rows l2
  obtain ⟨pl, pls⟩ := light_parts l4
  have pl : l.length ≤ 20 := pl
  have pls : ∀ nd ∈ l, nd.parts.length ≤ 20 := pls
  repeat (first | (with_reducible apply Tl.val; focus (simp (disch := omega) only [coreA, Int.reduceBEq, base_B2, p1] <;> with_reducible rfl)) | (with_reducible first | refine Tl.brT ?_ | refine Tl.brF ?_ | refine Tl.gd_on ?_ | refine Tl.gd3_on ?_) | ((with_reducible first | apply Tl.brC | apply Tl.gdC | apply Tl.gd3C); focus (simp (disch := omega) only [coreA, Int.reduceBEq, base_B2, p1] <;> with_reducible rfl)))
  refine Tl.bind (f18c (k := k + 108700) (C.grow S3.grow) hcl.1 (PL.grow S3.grow) hpl.1 (fun nd hnd => by have := pls nd hnd; omega)) ?_
  rintro ⟨r, h4⟩ ⟨⟨z, er, hz⟩, g4⟩
  simp only at er g4
  subst er
  have S4 := S3.call g4
  by_cases q2 : ¬ z = 0
  · repeat (first | (with_reducible apply Tl.val; focus (simp (disch := omega) only [coreA, Int.reduceBEq, base_B2] <;> with_reducible rfl)) | (with_reducible first | refine Tl.brT ?_ | refine Tl.brF ?_ | refine Tl.gd_on ?_ | refine Tl.gd3_on ?_) | ((with_reducible first | apply Tl.brC | apply Tl.gdC | apply Tl.gd3C); focus (simp (disch := omega) only [coreA, Int.reduceBEq, base_B2] <;> with_reducible rfl)))
    exact done _
  have q2 : z = 0 := Classical.not_not.1 q2
  obtain ⟨_, hn, hnp⟩ := nonneg_of (hz.1 q2)
  repeat (first | (with_reducible apply Tl.val; focus (simp (disch := omega) only [coreA, Int.reduceBEq, base_B2] <;> with_reducible rfl)) | (with_reducible first | refine Tl.brT ?_ | refine Tl.brF ?_ | refine Tl.gd_on ?_ | refine Tl.gd3_on ?_) | ((with_reducible first | apply Tl.brC | apply Tl.gdC | apply Tl.gd3C); focus (simp (disch := omega) only [coreA, Int.reduceBEq, base_B2] <;> with_reducible rfl)))
  refine Tl.call' S4 (f11c (k := k + 109699) (C.grow S4.grow) (R.grow S4.grow) hcl.1 (by omega) (fun r hx => (hr r hx).1) (by omega)) fun h5 S5 g5 => ?_
  cases q3 : fitRs cols rows with
  | false =>
    repeat (first | (with_reducible apply Tl.val; focus (simp (disch := omega) only [coreA, Int.reduceBEq, base_B2] <;> with_reducible rfl)) | (with_reducible first | refine Tl.brT ?_ | refine Tl.brF ?_ | refine Tl.gd_on ?_ | refine Tl.gd3_on ?_) | ((with_reducible first | apply Tl.brC | apply Tl.gdC | apply Tl.gd3C); focus (simp (disch := omega) only [coreA, Int.reduceBEq, base_B2] <;> with_reducible rfl)))
    exact done _
  | true =>
  repeat (first | (with_reducible apply Tl.val; focus (simp (disch := omega) only [coreA, Int.reduceBEq, base_B2] <;> with_reducible rfl)) | (with_reducible first | refine Tl.brT ?_ | refine Tl.brF ?_ | refine Tl.gd_on ?_ | refine Tl.gd3_on ?_) | ((with_reducible first | apply Tl.brC | apply Tl.gdC | apply Tl.gd3C); focus (simp (disch := omega) only [coreA, Int.reduceBEq, base_B2] <;> with_reducible rfl)))
  have rls' : ∀ r ∈ rows, r.length ≤ 2 ^ 30 := fun r hx => by have := rls r hx; omega
  -- a copy of one's own
  refine Tl.bind (f15c (k := k + 109998) (R.grow S5.grow) (by omega) rls' (by omega)) ?_
  rintro ⟨w, h6⟩ ⟨rs0, hrs0, T6⟩
  simp only at T6
  have S6 := S5.join T6
  have r7 : h6.row b7 0 5 = some (chrow 2 (.slice none 0 0) (.slice pa pm pc) (.slice none 0 0) (.slice none 0 0)) := S6.row 1 rfl rfl
  repeat (first | (with_reducible apply Tl.val; focus (simp (disch := omega) only [coreA, Int.reduceBEq, base_B2, r7] <;> with_reducible rfl)) | (with_reducible first | refine Tl.brT ?_ | refine Tl.brF ?_ | refine Tl.gd_on ?_ | refine Tl.gd3_on ?_) | ((with_reducible first | apply Tl.brC | apply Tl.gdC | apply Tl.gd3C); focus (simp (disch := omega) only [coreA, Int.reduceBEq, base_B2, r7] <;> with_reducible rfl)))
  have ok : ChOk (delOf l) := chOk_del (by omega) fun nd hnd => by have := pls nd hnd; omega
  refine Tl.bind (f16c (k := k + 108700) (c := delOf l) (R.grow S6.grow) (changeF_del (PL.grow S6.grow)) ok (by omega) rls' (by omega)) ?_
  rintro ⟨_, h7⟩ ⟨oa, Fa, ra, rfl, hra, T7, ha⟩
  simp only at T7
  have S7 := S6.join T7
  have r7 : h7.row b7 0 5 = some (chrow 2 (.slice none 0 0) (.slice pa pm pc) (.slice none 0 0) (.slice none 0 0)) := by
    have : (b7, AO.cells (chrow 2 (.slice none 0 0) (.slice pa pm pc) (.slice none 0 0) (.slice none 0 0)) 39 true) ∈ Fa ++ ([] ++ [(h2.n, AO.cells (chrow 2 (.slice none 0 0) (.slice pa pm pc) (.slice none 0 0) (.slice none 0 0)) 39 true), (b7, .cells (chrow 2 (.slice none 0 0) (.slice pa pm pc) (.slice none 0 0) (.slice none 0 0)) 39 true)]) := by simp
    obtain ⟨i, hi⟩ := List.mem_iff_getElem?.1 this
    exact S7.row i hi rfl
  repeat (first | (with_reducible apply Tl.val; focus (simp (disch := omega) only [coreA, Int.reduceBEq, base_B2, r7] <;> with_reducible rfl)) | (with_reducible first | refine Tl.brT ?_ | refine Tl.brF ?_ | refine Tl.gd_on ?_ | refine Tl.gd3_on ?_) | ((with_reducible first | apply Tl.brC | apply Tl.gdC | apply Tl.gd3C); focus (simp (disch := omega) only [coreA, Int.reduceBEq, base_B2, r7] <;> with_reducible rfl)))
  have hlen1 : (oneR rows (delOf l)).length ≤ 60 := by have := del_sum rows l; omega
  have hlr1 : ∀ r ∈ oneR rows (delOf l), r.length ≤ 20 := fun r hx => rls r (List.mem_filter.1 hx).1
  have A7 : Rows h7 oa (oneR rows (delOf l)) := by rw [← hra]; exact rows_out S7 (ha h7 (mem_app_l S7.sta.mem))
  refine Tl.bind (f16c (k := k + 108700) (c := delOf l) A7 (changeF_del (PL.grow S7.grow)) ok (by omega) (fun r hx => by have := hlr1 r hx; omega) (by omega)) ?_
  rintro ⟨_, h8⟩ ⟨ob, Fb, rb, rfl, hrb, T8, hb⟩
  simp only at T8
  have S8 := S7.join T8
  repeat (first | (with_reducible apply Tl.val; focus (simp (disch := omega) only [coreA, Int.reduceBEq, base_B2] <;> with_reducible rfl)) | (with_reducible first | refine Tl.brT ?_ | refine Tl.brF ?_ | refine Tl.gd_on ?_ | refine Tl.gd3_on ?_) | ((with_reducible first | apply Tl.brC | apply Tl.gdC | apply Tl.gd3C); focus (simp (disch := omega) only [coreA, Int.reduceBEq, base_B2] <;> with_reducible rfl)))
  rw [bs49, bnd_some]
  have S9 := S8.alloc (.cells [.slice pa pm pc] 35 true)
  generalize hh9 : h8.alloc (.cells [.slice pa pm pc] 35 true) = h9 at S9 ⊢
  refine Tl.bind (f19c (k := k + 108900) (op := 8) (vs := [.slice pa pm pc]) (ls := [l]) (S9.lit 0 rfl rfl).z ⟨PL.grow S9.grow, trivial⟩ (by simp) (fun x hx => by
    simp at hx
    subst hx
    exact ⟨by omega, fun nd hnd => ⟨by have := pls nd hnd; omega, fun n hn' => by have := hnp nd hnd n hn'; omega⟩⟩)) ?_
  rintro ⟨nv, h10⟩ ⟨NP, g10⟩
  simp only at NP g10
  have S10 := S9.call g10
  obtain ⟨na, nm, nc, env'⟩ := NP.slice
  subst env'
  repeat (first | (with_reducible apply Tl.val; focus (simp (disch := omega) only [coreA, Int.reduceBEq, base_B2, bdCh] <;> with_reducible rfl)) | (with_reducible first | refine Tl.brT ?_ | refine Tl.brF ?_ | refine Tl.gd_on ?_ | refine Tl.gd3_on ?_) | ((with_reducible first | apply Tl.brC | apply Tl.gdC | apply Tl.gd3C); focus (simp (disch := omega) only [coreA, Int.reduceBEq, base_B2, bdCh] <;> with_reducible rfl)))
  refine Tl.alloc' (Stt.init h10) ze39 (by rfl) fun b13 h11 T11 g11 => ?_
  refine Tl.store' T11 0 rfl sz39 rfl rfl (by simp [Value.cells]) fun h12 T12 k12 => ?_
  have T12 : Stt Try.prog h10.n h10 h12 [(b13, .cells (chrow 2 (.slice none 0 0) (.slice na nm nc) (.slice none 0 0) (.slice none 0 0)) 39 true)] [] := T12
  have S12 := S10.join T12
  have r13 : h12.row b13 0 5 = some (chrow 2 (.slice none 0 0) (.slice na nm nc) (.slice none 0 0) (.slice none 0 0)) := T12.row 0 rfl rfl
  repeat (first | (with_reducible apply Tl.val; focus (simp (disch := omega) only [coreA, Int.reduceBEq, base_B2, r13] <;> with_reducible rfl)) | (with_reducible first | refine Tl.brT ?_ | refine Tl.brF ?_ | refine Tl.gd_on ?_ | refine Tl.gd3_on ?_) | ((with_reducible first | apply Tl.brC | apply Tl.gdC | apply Tl.gd3C); focus (simp (disch := omega) only [coreA, Int.reduceBEq, base_B2, r13] <;> with_reducible rfl)))
  have hup : upto (100 + (joinL 8 [l]).length) (joinL 8 [l]) := joinL_upto 8 (by omega) [l] (fun x hx => by
    rw [List.mem_singleton] at hx
    subst hx
    exact fun nd hnd => ⟨by have := pls nd hnd; omega, fun n hn' => by have := hnp nd hnd n hn'; omega⟩) (by simp)
  have hjl := joinL_len1 8 l
  refine Tl.bind (f16c (k := k + 108700) (c := delOf (joinL 8 [l])) (R.grow S12.grow) (changeF_del (NP.grow T12.grow)) (chOk_del (by omega) fun nd hnd => (hup nd hnd).1) (by omega) rls' (by omega)) ?_
  rintro ⟨_, h13⟩ ⟨oc, Fc, rc, rfl, hrc, T13, hc⟩
  simp only at T13
  have S13 := S12.join T13
  repeat (first | (with_reducible apply Tl.val; focus (simp (disch := omega) only [coreA, Int.reduceBEq, base_B2] <;> with_reducible rfl)) | (with_reducible first | refine Tl.brT ?_ | refine Tl.brF ?_ | refine Tl.gd_on ?_ | refine Tl.gd3_on ?_) | ((with_reducible first | apply Tl.brC | apply Tl.gdC | apply Tl.gd3C); focus (simp (disch := omega) only [coreA, Int.reduceBEq, base_B2] <;> with_reducible rfl)))
  have hrcl : rc.length ≤ 60 ∧ ∀ q ∈ rc, q.2.length ≤ 20 := by
    have h1 : oneR rows (delOf (joinL 8 [l])) = rows.filter fun r => !meant (delOf (joinL 8 [l])) r := rfl
    refine ⟨?_, fun q hq => ?_⟩
    · rw [← rowsOf_len, hrc, h1]
      have := List.length_filter_le (fun r => !meant (delOf (joinL 8 [l])) r) rows
      omega
    · have : q.2 ∈ rowsOf rc := List.mem_map.2 ⟨q, hq, rfl⟩
      rw [hrc, h1] at this
      exact rls _ (List.mem_filter.1 this).1
  refine f5_out (rs := rc) (fun h' m => hc h' (mem_app_l m)) (by omega) (fun q hq => ⟨by have := hrcl.2 q hq; omega, by have := hrcl.2 q hq; omega⟩) rc.length (i := 0) (by omega) (by omega) S13 fun h14 y1 y2 S14 => ?_
  have hal : (oneR rows (delOf l)).length + oneN rows (delOf l) = rows.length := by have := del_sum rows l; omega
  have hm0 := again_none rows l
  have hns := not_sum rows hn
  have A : Rows h14 oa (oneR rows (delOf l)) := by
    rw [← hra]
    exact rows_mem S14 (fun o ho => by simp [ho]) (ha h14 (by
      have := S14.sta.mem
      rw [Mem.iff] at this ⊢
      exact fun p hp => this p (by simp [hp])))
  have B' : Rows h14 ob (oneR rows (delOf l)) := by
    rw [← again_rows rows l, ← hrb]
    exact rows_mem S14 (fun o ho => by simp [ho]) (hb h14 (by
      have := S14.sta.mem
      rw [Mem.iff] at this ⊢
      exact fun p hp => this p (by simp [hp])))
  simp only [G5_18]
  repeat (first | (with_reducible apply Tl.val; focus (simp (disch := omega) only [coreA, Int.reduceBEq, base_B2] <;> with_reducible rfl)) | (with_reducible first | refine Tl.brT ?_ | refine Tl.brF ?_ | refine Tl.gd_on ?_ | refine Tl.gd3_on ?_) | ((with_reducible first | apply Tl.brC | apply Tl.gdC | apply Tl.gd3C); focus (simp (disch := omega) only [coreA, Int.reduceBEq, base_B2] <;> with_reducible rfl)))
  refine Tl.call' S14 (f20c (k := k + 109986) A B' (by omega) (by omega) (fun r hx => by have := hlr1 r hx; omega) (fun r hx => by have := hlr1 r hx; omega) (by omega)) fun h15 S15 g15 => ?_
  rw [decide_eq_true rfl]
  have W : Rows h15 w rows := by
    rw [← hrs0]
    exact rows_mem S15 (fun o ho => by simp [ho]) (slV_mem S15 (by simp))
  have hla : ∀ h', pLen Try.prog #[23] oa h' = some (.int .i64 (oneR rows (delOf l)).length) := fun h' => A.len
  have hlr : ∀ h', pLen Try.prog #[23] rv h' = some (.int .i64 rows.length) := fun h' => R.len
  have p9 := f14e (k := k + 109999) (R.grow S15.grow) W (by omega) (by omega) (fun r hx => by have := rls r hx; omega) (fun r hx => by have := rls r hx; omega) (by omega)
  rw [decide_eq_true rfl] at p9
  repeat (first | (with_reducible apply Tl.val; focus (simp (disch := omega) only [coreA, Int.reduceBEq, base_B2, hla, hlr, p9] <;> with_reducible rfl)) | (with_reducible first | refine Tl.brT ?_ | refine Tl.brF ?_ | refine Tl.gd_on ?_ | refine Tl.gd3_on ?_) | ((with_reducible first | apply Tl.brC | apply Tl.gdC | apply Tl.gd3C); focus (simp (disch := omega) only [coreA, Int.reduceBEq, base_B2, hla, hlr, p9] <;> with_reducible rfl)))
  exact done _
end Go.Proofs.Ytjmfokglckaneaa.Sh
