/- 'batch.One'. -/
import Derived.Test.YtjmfokglckaneaaSzVt
set_option linter.unusedVariables false
set_option linter.unusedSimpArgs false
set_option maxRecDepth 100000
namespace Go.Proofs.Ytjmfokglckaneaa.Sh
open Go Go.RowKit Go.Proofs.Ev
theorem base_Vu : type_of% (And.intro @ld3 (And.intro @ld36 (And.intro @ld37 (And.intro @ld45 (And.intro @ld23 (And.intro @ld35 (And.intro @ld39 (And.intro @fa39_0 (And.intro @fa39_1 (And.intro @fa39_2 (And.intro @fa39_3 (And.intro @fa39_4 (@Nat.add_zero))))))))))))) := And.intro @ld3 (And.intro @ld36 (And.intro @ld37 (And.intro @ld45 (And.intro @ld23 (And.intro @ld35 (And.intro @ld39 (And.intro @fa39_0 (And.intro @fa39_1 (And.intro @fa39_2 (And.intro @fa39_3 (And.intro @fa39_4 (@Nat.add_zero))))))))))))
def meant (c : ChangeD) (r : List CellD) : Bool := holdsB r c.pred
def hitsOf (rows : List (List CellD)) (c : ChangeD) : Nat := (rows.filter (meant c)).length
def updR (c : ChangeD) (r : List CellD) : List CellD := if meant c r then setL r c.cols c.to else r
/-- Rows behind a change, and how many it meant. -/
def oneR (rows : List (List CellD)) (c : ChangeD) : List (List CellD) :=
  if c.kind = 1 then rows ++ c.rows else if c.kind = 2 then rows.filter fun r => !meant c r else if c.kind = 3 then rows.map (updR c) else rows
def oneN (rows : List (List CellD)) (c : ChangeD) : Nat := if c.kind = 1 then c.rows.length else if c.kind = 2 ∨ c.kind = 3 then hitsOf rows c else 0
/-- Changes of which 'One' can be told. -/
structure ChOk (c : ChangeD) : Prop where
  rows : c.rows.length ≤ 100000
  row : ∀ r ∈ c.rows, r.length ≤ 2 ^ 30
  pred : c.pred.length ≤ 900
  parts : ∀ nd ∈ c.pred, nd.parts.length ≤ 900
  cols : c.cols.length ≤ 100000
  to : c.to.length ≤ 100000
theorem filt_len (p : List CellD → Bool) : ∀ l : List (List CellD), (l.filter p).length + (l.filter fun r => !p r).length = l.length
  | [] => rfl
  | a :: l => by
    have := filt_len p l
    cases e : p a <;> simp [e] <;> omega
theorem updAt {α : Type} {g : α → α} {l : List α} {i : Nat} {x : α} (h : l[i]? = some x) : ((l.take i).map g ++ l.drop i)[i]? = some x ∧ ((l.take i).map g ++ l.drop i).set i (g x) = (l.take (i + 1)).map g ++ l.drop (i + 1) := by
  have hi := (List.getElem?_eq_some_iff.1 h).1
  have hl : ((l.take i).map g).length = i := by simp; omega
  constructor
  · rw [List.getElem?_append_right (by omega), hl, Nat.sub_self, drop_at h]
    rfl
  · rw [drop_at h, List.set_append, if_neg (by omega), hl, Nat.sub_self, List.set_cons_zero, List.take_add_one, h]
    simp
theorem set_same {α : Type} {l : List α} {i : Nat} {x : α} (h : l[i]? = some x) : l.set i x = l := by
  refine List.ext_getElem? fun j => ?_
  by_cases q : i = j
  · subst q; rw [set_self (List.getElem?_eq_some_iff.1 h).1, h]
  · rw [List.getElem?_set_ne q]
def updQ (c : ChangeD) (q : Value × List CellD) : Value × List CellD := (q.1, updR c q.2)
theorem rowsOf_upd (c : ChangeD) (rs : RS) : rowsOf (rs.map (updQ c)) = (rowsOf rs).map (updR c) := by unfold rowsOf; rw [List.map_map, List.map_map]; rfl
theorem outs_upd (c : ChangeD) (rs : RS) : outs (rs.map (updQ c)) = outs rs := by unfold outs; rw [List.map_map]; rfl
theorem updR_len (c : ChangeD) (r : List CellD) : (updR c r).length = r.length := by unfold updR; split <;> simp [setL_len]
section
variable {h0 : AH} {b3 : Nat} {x4 rv pv cv tv : Value} {c : ChangeD} {rs : RS}
theorem meant_call {k : Nat} {h' : AH} {w : Value} {r : List CellD} (C : ChangeF h0 rv pv cv tv c) (ok : ChOk c) (hk : 1201 ≤ k) (hr : r.length ≤ 2 ^ 62) (g : Grow h0 h') (hg : h'.get b3 = some (.cells (chrow c.kind rv pv cv tv) 39 true)) (R : Cells h' w r) :
    Tl (callV (eInv env k) (.func (.func 37) #[] #[.pointer (some ⟨b3, 0, none⟩)]) #[w] h') fun q => q.1 = .bool (meant c r) ∧ Grow h' q.2 := by
  obtain ⟨k, rfl⟩ : ∃ z, k = z + 1201 := ⟨k - 1201, by omega⟩
  rw [callV_cap1 (by kernel_rfl), F37_eq]
  unfold F37
  have c2 : h'.cell b3 2 = some pv := cell_of hg
  repeat (first | (with_reducible apply Tl.val; focus (simp (disch := omega) only [coreA, Int.reduceBEq, base_Vu, c2] <;> with_reducible rfl)) | (with_reducible first | refine Tl.brT ?_ | refine Tl.brF ?_ | refine Tl.gd_on ?_ | refine Tl.gd3_on ?_) | ((with_reducible first | apply Tl.brC | apply Tl.gdC | apply Tl.gd3C); focus (simp (disch := omega) only [coreA, Int.reduceBEq, base_Vu, c2] <;> with_reducible rfl)))
  refine Tl.bind (f38c (k := k) (C.2.1.grow g) R ok.pred ok.parts hr) ?_
  rintro ⟨q, h2⟩ ⟨eq, g2⟩
  exact ⟨_, rfl, eq, g2⟩
theorem f16_loop {β : Type} {k : Nat} {Q : β → Prop} (C : ChangeF h0 rv pv cv tv c) (ok : ChOk c) (hl : rs.length ≤ 100000) (hr : ∀ r ∈ rowsOf rs, r.length ≤ 2 ^ 30) (hk : 100000 < k)
    {ke1 : Value → Value → Value → Value → Value → Value → AH → Option β} (n : Nat) :
    ∀ {i j : Nat} {h : AH}, i + n = rs.length → n < j →
      Stt Try.prog h0.n h0 h [(b3, .cells (chrow c.kind rv pv cv tv) 39 true)] ((x4, 1, outs rs) :: owns ((rs.take i).map (updQ c) ++ rs.drop i)) →
      (∀ h' y1 y2 y3, Stt Try.prog h0.n h0 h' [(b3, .cells (chrow c.kind rv pv cv tv) 39 true)] ((x4, 1, outs rs) :: owns (rs.map (updQ c))) →
        Tl (ke1 (.pointer (some ⟨b3, 0, none⟩)) x4 (.int .i64 (hitsOf (rowsOf rs) c)) y1 y2 y3 h') Q) →
      Tl (F16_lrlrrrrrlrlrr (eInv env (k + 1200)) (k + 1200) j (.pointer (some ⟨b3, 0, none⟩)) x4 (.int .i64 (hitsOf (rowsOf (rs.take i)) c)) (.int .i64 rs.length) (.int .i64 i) h ke1) Q := by
  induction n with
  | zero =>
    intro i j h hi hj S hk'
    obtain ⟨j, rfl⟩ : ∃ q, j = q + 1 := ⟨j - 1, by omega⟩
    rw [List.drop_eq_nil_of_le (by omega : rs.length ≤ i), List.append_nil, List.take_of_length_le (by omega)] at S
    rw [List.take_of_length_le (by omega)]
    simp only [F16_lrlrrrrrlrlrr]
    repeat (first | (with_reducible apply Tl.val; focus (simp (disch := omega) only [coreA, Int.reduceBEq, base_Vu] <;> with_reducible rfl)) | (with_reducible first | refine Tl.brT ?_ | refine Tl.brF ?_ | refine Tl.gd_on ?_ | refine Tl.gd3_on ?_) | ((with_reducible first | apply Tl.brC | apply Tl.gdC | apply Tl.gd3C); focus (simp (disch := omega) only [coreA, Int.reduceBEq, base_Vu] <;> with_reducible rfl)))
    exact hk' _ _ _ _ S
  | succ n ih =>
    intro i j h hi hj S hk'
    obtain ⟨j, rfl⟩ : ∃ q, j = q + 1 := ⟨j - 1, by omega⟩
    obtain ⟨x, ex⟩ : ∃ x, rs[i]? = some x := ⟨_, List.getElem?_eq_getElem (by omega)⟩
    obtain ⟨b, o, hp, hc⟩ := outer_at (S.slV 0 rfl) (outs_at ex) u23 sz37
    have e : (i : Int) + 1 = ((i + 1 : Nat) : Int) := by omega
    obtain ⟨u1, u2⟩ := updAt (g := updQ c) ex
    have hm : ((x4, 1, outs rs) :: owns ((rs.take i).map (updQ c) ++ rs.drop i))[i + 1]? = some (x.1, 3, x.2.map crow) := by
      unfold owns
      rw [List.getElem?_cons_succ, List.getElem?_map, u1]
      rfl
    have hx : x.2.length ≤ 2 ^ 30 := hr _ (List.mem_map.2 ⟨x, List.mem_of_getElem? ex, rfl⟩)
    have R := ownRow S (List.mem_of_getElem? hm)
    have c2 : h.cell b3 2 = some pv := S.cell 0 rfl rfl
    have hh : hitsOf (rowsOf (rs.take (i + 1))) c = hitsOf (rowsOf (rs.take i)) c + if meant c x.2 then 1 else 0 := by
      rw [List.take_add_one, ex]
      unfold hitsOf rowsOf
      rw [List.map_append, List.filter_append, List.length_append]
      simp only [Option.toList_some, List.map_cons, List.map_nil, List.filter_cons, List.filter_nil]
      split <;> rfl
    have hle : hitsOf (rowsOf (rs.take i)) c ≤ 100000 := by
      refine Nat.le_trans (List.length_filter_le ..) ?_
      rw [rowsOf_len, List.length_take]; omega
    simp only [F16_lrlrrrrrlrlrr, F16_lrrllrlrrrrrlrlrr]
    repeat (first | (with_reducible apply Tl.val; focus (simp (disch := omega) only [coreA, Int.reduceBEq, base_Vu, hp, hc, c2] <;> with_reducible rfl)) | (with_reducible first | refine Tl.brT ?_ | refine Tl.brF ?_ | refine Tl.gd_on ?_ | refine Tl.gd3_on ?_) | ((with_reducible first | apply Tl.brC | apply Tl.gdC | apply Tl.gd3C); focus (simp (disch := omega) only [coreA, Int.reduceBEq, base_Vu, hp, hc, c2] <;> with_reducible rfl)))
    refine Tl.bind (f38c (k := k) (C.2.1.grow S.grow) R ok.pred ok.parts (by omega)) ?_
    rintro ⟨q, h2⟩ ⟨eq, g2⟩
    simp only at eq g2
    have eq : q = .bool (meant c x.2) := eq
    subst eq
    have S2 := S.call g2
    have hc2 := g2.cell hc
    cases q : meant c x.2 with
    | true =>
      have hrow : h2.row b3 0 5 = some (chrow c.kind rv pv cv tv) := S2.row 0 rfl rfl
      repeat (first | (with_reducible apply Tl.val; focus (simp (disch := omega) only [coreA, Int.reduceBEq, base_Vu, hp, hc2, hrow] <;> with_reducible rfl)) | (with_reducible first | refine Tl.brT ?_ | refine Tl.brF ?_ | refine Tl.gd_on ?_ | refine Tl.gd3_on ?_) | ((with_reducible first | apply Tl.brC | apply Tl.gdC | apply Tl.gd3C); focus (simp (disch := omega) only [coreA, Int.reduceBEq, base_Vu, hp, hc2, hrow] <;> with_reducible rfl)))
      refine Tl.bind (f39c (k := k + 1199) S2 hm C (by have := ok.cols; omega) (by have := ok.to; omega) (by omega) (by have := ok.cols; omega)) fun r S3 => ?_
      have S3 : Stt Try.prog h0.n h0 r.2 [(b3, .cells (chrow c.kind rv pv cv tv) 39 true)] ((x4, 1, outs rs) :: owns ((rs.take (i + 1)).map (updQ c) ++ rs.drop (i + 1))) := by
        have h5 : (x.1, 3, (setL x.2 c.cols c.to).map crow) = ((updQ c x).1, 3, (updQ c x).2.map crow) := by unfold updQ updR; rw [q]; rfl
        rw [List.set_cons_succ, h5] at S3
        unfold owns at S3 ⊢
        rw [← u2, List.map_set]
        exact S3
      rw [q] at hh
      have hh : (hitsOf (rowsOf (rs.take i)) c : Int) + 1 = (hitsOf (rowsOf (rs.take (i + 1))) c : Nat) := by rw [hh]; simp
      repeat (first | (with_reducible apply Tl.val; focus (simp (disch := omega) only [coreA, Int.reduceBEq, base_Vu] <;> with_reducible rfl)) | (with_reducible first | refine Tl.brT ?_ | refine Tl.brF ?_ | refine Tl.gd_on ?_ | refine Tl.gd3_on ?_) | ((with_reducible first | apply Tl.brC | apply Tl.gdC | apply Tl.gd3C); focus (simp (disch := omega) only [coreA, Int.reduceBEq, base_Vu] <;> with_reducible rfl)))
      rw [e, hh]
      exact ih (by omega) (by omega) S3 hk'
    | false =>
      have h5 : updQ c x = x := by unfold updQ updR; rw [q]; rfl
      rw [h5, set_same u1] at u2
      rw [q] at hh
      have hh : hitsOf (rowsOf (rs.take (i + 1))) c = hitsOf (rowsOf (rs.take i)) c := hh
      repeat (first | (with_reducible apply Tl.val; focus (simp (disch := omega) only [coreA, Int.reduceBEq, base_Vu] <;> with_reducible rfl)) | (with_reducible first | refine Tl.brT ?_ | refine Tl.brF ?_ | refine Tl.gd_on ?_ | refine Tl.gd3_on ?_) | ((with_reducible first | apply Tl.brC | apply Tl.gdC | apply Tl.gd3C); focus (simp (disch := omega) only [coreA, Int.reduceBEq, base_Vu] <;> with_reducible rfl)))
      rw [e, ← hh]
      exact ih (by omega) (by omega) (by rw [← u2]; exact S2) hk'
end
theorem outs_one {n0 : Nat} {h0 h : AH} {L : List (Nat × AO)} {O : List OS} {rs : RS} (S : Stt Try.prog n0 h0 h L (owns rs ++ O)) : (outs rs).flatten.all oneCell = true := by
  have : ∀ q ∈ rs, oneCell q.1 = true := fun q hq => SlZ.one (ownRow S (List.mem_append.2 (.inl (List.mem_map.2 ⟨q, hq, rfl⟩))))
  clear S
  induction rs with
  | nil => rfl
  | cons q rs ih =>
    have h1 := ih fun x hx => this x (List.mem_cons_of_mem _ hx)
    unfold outs at h1 ⊢
    rw [List.map_cons, List.flatten_cons, List.all_append, h1, Bool.and_true]
    simp [this q (List.mem_cons_self ..)]
theorem mem_app_l {h : AH} {L L' : List (Nat × AO)} (m : Mem h (L ++ L')) : Mem h L := (Mem.app.1 m).1
theorem f16c {k : Nat} {h : AH} {v rv pv cv tv : Value} {rows : List (List CellD)} {c : ChangeD} (R : Rows h v rows) (C : ChangeF h rv pv cv tv c) (ok : ChOk c) (hl : rows.length ≤ 100000) (hr : ∀ r ∈ rows, r.length ≤ 2 ^ 30) (hk : 100010 < k) :
    Tl (eInv env (k + 1300) (.func 16) #[] #[v, .agg (chrow c.kind rv pv cv tv).toArray] h) fun r => ∃ ov F rs, r.1 = .tuple #[ov, .int .i64 (oneN rows c)] ∧ rowsOf rs = oneR rows c ∧ Stt Try.prog h.n h r.2 F (owns rs) ∧ ∀ h', Mem h' F → SlV Try.prog h' ov 1 (outs rs) ∧ SzV Try.prog h' ov 1 := by
  rw [F16_call]
  unfold F16 F16_rlrr
  refine Tl.box' (Stt.init h) rfl (by rw [sz39]; rfl) fun b3 h1 S1 g1 => ?_
  have S1 : Stt Try.prog h.n h h1 [(b3, .cells (chrow c.kind rv pv cv tv) 39 true)] [] := S1
  refine Tl.bind (f27c (k := k + 1297) (R.grow g1) (by omega) hr (by omega)) ?_
  rintro ⟨x4, h2⟩ ⟨rs, hrs, S2⟩
  simp only at S2
  have S3 := S1.join S2
  rw [List.nil_append, List.append_nil] at S3
  have c0 : h2.cell b3 0 = some (.int .i64 c.kind) := S3.cell 0 rfl rfl
  have hlen : rs.length = rows.length := by rw [← hrs, rowsOf_len]
  have hv : ∀ h', pLen Try.prog #[23] x4 h' = some (.int .i64 rs.length) := fun h' => by
    have := (S3.slV 0 rfl).len (h' := h') u23
    rwa [outs_len] at this
  unfold oneR oneN
  by_cases k1 : c.kind = 1
  · rw [if_pos k1, if_pos k1]
    have c1 : h2.cell b3 1 = some rv := S3.cell 0 rfl rfl
    repeat (first | (with_reducible apply Tl.val; focus (simp (disch := omega) only [coreA, Int.reduceBEq, base_Vu, c0] <;> with_reducible rfl)) | (with_reducible first | refine Tl.brT ?_ | refine Tl.brF ?_ | refine Tl.gd_on ?_ | refine Tl.gd3_on ?_) | ((with_reducible first | apply Tl.brC | apply Tl.gdC | apply Tl.gd3C); focus (simp (disch := omega) only [coreA, Int.reduceBEq, base_Vu, c0] <;> with_reducible rfl)))
    simp only [G16_4]
    repeat (first | (with_reducible apply Tl.val; focus (simp (disch := omega) only [coreA, Int.reduceBEq, base_Vu, c1] <;> with_reducible rfl)) | (with_reducible first | refine Tl.brT ?_ | refine Tl.brF ?_ | refine Tl.gd_on ?_ | refine Tl.gd3_on ?_) | ((with_reducible first | apply Tl.brC | apply Tl.gdC | apply Tl.gd3C); focus (simp (disch := omega) only [coreA, Int.reduceBEq, base_Vu, c1] <;> with_reducible rfl)))
    refine Tl.bind (f27c (k := k + 1297) (C.1.grow S3.grow) (by have := ok.rows; omega) ok.row (by have := ok.rows; omega)) ?_
    rintro ⟨x17, h3⟩ ⟨rs', hrs', S4⟩
    simp only at S4
    have S5 := S3.join S4
    have hlen' : rs'.length = c.rows.length := by rw [← hrs', rowsOf_len]
    have hok := ok.rows
    have S6 := S5.permO (O' := (x4, 1, outs rs) :: (x17, 1, outs rs') :: owns (rs ++ rs')) (by
      unfold owns
      rw [List.map_append, List.cons_append]
      refine .trans (.cons _ (List.perm_append_comm)) ?_
      exact .swap _ _ _)
    have d1 : h3.cell b3 1 = some rv := S6.cell 0 rfl rfl
    have B := S6.slV 1 rfl
    have S4' : Stt Try.prog h2.n h2 h3 [] (owns rs' ++ []) := by rw [List.append_nil]; exact S4.dropO
    obtain ⟨x18, h4, e1, S7, _, _⟩ := S6.append 0 rfl app23 B (by rw [outs_len, outs_len]; omega) (outs_one S4')
    have d2 : h4.cell b3 1 = some rv := S7.cell 0 rfl rfl
    have hrl : ∀ h', pLen Try.prog #[23] rv h' = some (.int .i64 c.rows.length) := fun h' => C.1.len
    repeat (first | (with_reducible apply Tl.val; focus (simp (disch := omega) only [coreA, Int.reduceBEq, base_Vu, e1, d1, d2, hrl] <;> with_reducible rfl)) | (with_reducible first | refine Tl.brT ?_ | refine Tl.brF ?_ | refine Tl.gd_on ?_ | refine Tl.gd3_on ?_) | ((with_reducible first | apply Tl.brC | apply Tl.gdC | apply Tl.gd3C); focus (simp (disch := omega) only [coreA, Int.reduceBEq, base_Vu, e1, d1, d2, hrl] <;> with_reducible rfl)))
    refine Tl.chk ?_ ?_
    · have hsame : sameV rv rv = true := by
        obtain ⟨vs, X, _⟩ := C.1
        exact X.same
      simp only [ld23, c1, d1, d2, hsame, hrl, sameO_some, sameV_int, Bool.and_self, Bool.not_true, Bool.or_true, Bool.false_or, Bool.true_and]
    have S8 := S7.subO (O' := (x18, 1, outs (rs ++ rs')) :: owns (rs ++ rs')) (by
      have : outs (rs ++ rs') = outs rs ++ outs rs' := by unfold outs; rw [List.map_append]
      rw [this]
      exact .cons_cons _ (.cons _ (.refl _)))
    obtain ⟨F, S9, hF⟩ := S8.freezeS
    exact ⟨_, rfl, x18, _, rs ++ rs', rfl, by unfold rowsOf at *; rw [List.map_append, hrs, hrs'], S9, fun h' m => hF h' (mem_app_l m)⟩
  · rw [if_neg k1, if_neg k1]
    by_cases k2 : c.kind = 2
    · rw [if_pos k2, if_pos (.inl k2)]
      have mf : pMakeFunc (Go.Fn.func 37) #[] #[.pointer (some ⟨b3, 0, none⟩)] = some (.func (.func 37) #[] #[.pointer (some ⟨b3, 0, none⟩)]) := rfl
      repeat (first | (with_reducible apply Tl.val; focus (simp (disch := omega) only [coreA, Int.reduceBEq, base_Vu, c0, hv, mf] <;> with_reducible rfl)) | (with_reducible first | refine Tl.brT ?_ | refine Tl.brF ?_ | refine Tl.gd_on ?_ | refine Tl.gd3_on ?_) | ((with_reducible first | apply Tl.brC | apply Tl.gdC | apply Tl.gd3C); focus (simp (disch := omega) only [coreA, Int.reduceBEq, base_Vu, c0, hv, mf] <;> with_reducible rfl)))
      refine Tl.bind (f36c (k := k + 1297) (rs := rs) (p := meant c) (O := []) (by omega) (by omega) (by rw [List.append_nil]; exact S3) fun k' h' w r hk' hm g R' hq => ?_) ?_
      · obtain ⟨q, hq, rfl⟩ := hq
        exact meant_call C ok (by omega) (by have := hr q.2 (by rw [← hrs]; exact List.mem_map.2 ⟨q, hq, rfl⟩); omega) g hm.1 R'
      rintro ⟨ov, h3⟩ ⟨F, S4, hF⟩
      simp only at S4 hF
      rw [List.append_nil] at S4
      have hlv : ∀ h', pLen Try.prog #[23] ov h' = some (.int .i64 (kept (meant c) rs).length) := fun h' => by
        have := (hF h3 (mem_app_l S4.sta.mem)).1.len (h' := h') u23
        rwa [outs_len] at this
      have hkl := kept_len (meant c) rs
      have hn : ((rs.length : Int) - (kept (meant c) rs).length) = (hitsOf rows c : Nat) := by
        have h5 := filt_len (meant c) rows
        have h6 := congrArg List.length (rowsOf_kept (p := meant c) rs)
        rw [rowsOf_len, hrs] at h6
        unfold hitsOf
        omega
      repeat (first | (with_reducible apply Tl.val; focus (simp (disch := omega) only [coreA, Int.reduceBEq, base_Vu, hlv] <;> with_reducible rfl)) | (with_reducible first | refine Tl.brT ?_ | refine Tl.brF ?_ | refine Tl.gd_on ?_ | refine Tl.gd3_on ?_) | ((with_reducible first | apply Tl.brC | apply Tl.gdC | apply Tl.gd3C); focus (simp (disch := omega) only [coreA, Int.reduceBEq, base_Vu, hlv] <;> with_reducible rfl)))
      exact ⟨_, rfl, ov, _, kept (meant c) rs, by rw [hn], by rw [rowsOf_kept, hrs], S4, fun h' m => hF h' (mem_app_l m)⟩
    · rw [if_neg k2]
      by_cases k3 : c.kind = 3
      · rw [if_pos k3, if_pos (.inr k3)]
        repeat (first | (with_reducible apply Tl.val; focus (simp (disch := omega) only [coreA, Int.reduceBEq, base_Vu, c0, hv] <;> with_reducible rfl)) | (with_reducible first | refine Tl.brT ?_ | refine Tl.brF ?_ | refine Tl.gd_on ?_ | refine Tl.gd3_on ?_) | ((with_reducible first | apply Tl.brC | apply Tl.gdC | apply Tl.gd3C); focus (simp (disch := omega) only [coreA, Int.reduceBEq, base_Vu, c0, hv] <;> with_reducible rfl)))
        have hr' : ∀ r ∈ rowsOf rs, r.length ≤ 2 ^ 30 := by rw [hrs]; exact hr
        refine f16_loop (k := k + 99) (rs := rs) C ok (by omega) hr' (by omega) rs.length (i := 0) (by omega) (by omega) S3 fun h' y1 y2 y3 S4 => ?_
        have S5 : Stt Try.prog h.n h h' [(b3, .cells (chrow c.kind rv pv cv tv) 39 true)] ((x4, 1, outs (rs.map (updQ c))) :: owns (rs.map (updQ c))) := by rw [outs_upd]; exact S4
        obtain ⟨F, S6, hF⟩ := S5.freezeS
        exact ⟨_, rfl, x4, _, rs.map (updQ c), by rw [hrs], by rw [rowsOf_upd, hrs], S6, fun h' m => hF h' (mem_app_l m)⟩
      · rw [if_neg k3, if_neg (by omega)]
        repeat (first | (with_reducible apply Tl.val; focus (simp (disch := omega) only [coreA, Int.reduceBEq, base_Vu, c0] <;> with_reducible rfl)) | (with_reducible first | refine Tl.brT ?_ | refine Tl.brF ?_ | refine Tl.gd_on ?_ | refine Tl.gd3_on ?_) | ((with_reducible first | apply Tl.brC | apply Tl.gdC | apply Tl.gd3C); focus (simp (disch := omega) only [coreA, Int.reduceBEq, base_Vu, c0] <;> with_reducible rfl)))
        obtain ⟨F, S6, hF⟩ := S3.freezeS
        exact ⟨_, rfl, x4, _, rs, rfl, hrs, S6, fun h' m => hF h' (mem_app_l m)⟩
/-- 'One', its rows told alone. -/
theorem f16z {k : Nat} {h : AH} {v rv pv cv tv : Value} {rows : List (List CellD)} {c : ChangeD} (R : Rows h v rows) (C : ChangeF h rv pv cv tv c) (ok : ChOk c) (hl : rows.length ≤ 100000) (hr : ∀ r ∈ rows, r.length ≤ 2 ^ 30) (hk : 100010 < k) :
    Tl (eInv env (k + 1300) (.func 16) #[] #[v, .agg (chrow c.kind rv pv cv tv).toArray] h) fun r => ∃ ov, r.1 = .tuple #[ov, .int .i64 (oneN rows c)] ∧ Rows r.2 ov (oneR rows c) ∧ Grow h r.2 := by
  obtain ⟨⟨rv', h'⟩, e, ov, F, rs, er, hrs, S, hF⟩ := f16c (k := k) R C ok hl hr hk
  refine ⟨_, e, ov, er, ?_, S.grow⟩
  rw [← hrs]
  exact rows_out (O := []) (by rw [List.append_nil]; exact S) (hF h' S.sta.mem).1
end Go.Proofs.Ytjmfokglckaneaa.Sh
