/- 'NullsBack' comes to true. -/
import Derived.Test.YtoleebigheobcaaSzN8
set_option linter.unusedVariables false
set_option linter.unusedSimpArgs false
set_option maxRecDepth 100000
namespace Go.Proofs.Ytoleebigheobcaa.Sh
open Go Go.RowKit Go.Proofs.Ev
theorem base_N9 : type_of% (And.intro @ld3 (And.intro @ld4 (And.intro @ld5 (And.intro @ld22 (And.intro @ld25 (And.intro @ld32 (And.intro @ld49 (And.intro @ld52 (And.intro @ex2_0 (And.intro @ex2_1 (And.intro @ex3_0 (And.intro @ex3_1 (@ex3_2))))))))))))) := And.intro @ld3 (And.intro @ld4 (And.intro @ld5 (And.intro @ld22 (And.intro @ld25 (And.intro @ld32 (And.intro @ld49 (And.intro @ld52 (And.intro @ex2_0 (And.intro @ex2_1 (And.intro @ex3_0 (And.intro @ex3_1 (@ex3_2))))))))))))
theorem cnt_zero {l : List Bool} (h : cnt l = 0) : l = List.replicate l.length false := by
  refine List.eq_replicate_iff.2 ⟨rfl, fun b hb => ?_⟩
  have := List.count_eq_zero.1 h
  cases b
  · rfl
  · exact absurd hb this
theorem cnt_all {l : List Bool} (h : cnt l = l.length) : l = List.replicate l.length true := by
  refine List.eq_replicate_iff.2 ⟨rfl, fun b hb => ?_⟩
  exact (List.count_eq_length.1 h b hb).symm
theorem mid_put (l : List Bool) (b : List Nat) (hl : l.length ≤ 4096) : mid l.length (formN l) ((if formN l = 2 then putN 1 (l.map b2n) else []) ++ b) = some (l, b) := by
  unfold mid
  by_cases q : formN l = 2
  · simp only [if_pos q]
    have hs : szV l.length = (putN 1 (l.map b2n)).length := by
      have := (putN_spec 1 (l.map b2n)).2.1
      rw [List.length_map] at this
      unfold szV Pk.sizeN
      omega
    obtain ⟨t1, t2⟩ := Pk.there (l := l.map b2n) (W := 1) (by simp; omega) (by omega) (b2n_width l)
    rw [List.length_map] at t1 t2
    have e1 : ((1 : Nat) : Int) = 1 := rfl
    rw [e1] at t1 t2
    rw [if_neg (by simp; omega), hs, List.take_left' rfl, if_neg (fun h => h t1), t2, List.drop_left' rfl, List.map_map]
    congr 2
    conv => rhs; rw [← List.map_id l]
    refine List.map_congr_left fun x _ => ?_
    cases x <;> rfl
  · simp only [if_neg q, List.nil_append]
    unfold formN at q ⊢
    by_cases c0 : cnt l = 0
    · rw [if_pos c0]
      congr 2
      exact (cnt_zero c0).symm
    · rw [if_neg c0] at q ⊢
      by_cases c1 : cnt l = l.length
      · rw [if_pos c1]
        congr 2
        exact (cnt_all c1).symm
      · rw [if_neg c1] at q
        exact absurd rfl q
theorem get_put (l : List Bool) (b : List Nat) (hl : l.length ≤ 4096) : getV (putV l ++ b) = some (l, (putV l).length) := by
  have hd : dec 0 0 (putV l ++ b) = some (l.length, formN l :: ((if formN l = 2 then putN 1 (l.map b2n) else []) ++ b)) := by
    have := dec_pvar ((formN l :: (if formN l = 2 then putN 1 (l.map b2n) else [])) ++ b) l.length (i := 0) (acc := 0) (.inl rfl) (by simp; omega)
    unfold putV
    rw [List.append_assoc, this]
    simp
  unfold getV
  rw [hd]
  simp only
  have hf := formN_le l
  rw [if_neg (by omega), if_neg (by omega), mid_put l b hl]
  simp only [List.length_append]
  have e : (putV l).length + b.length - b.length = (putV l).length := by omega
  rw [e, List.take_left' rfl, if_pos rfl]
theorem get_some {b : List Nat} {l : List Bool} {n : Nat} (h : getV b = some (l, n)) : n ≤ b.length ∧ putV l = b.take n := by
  unfold getV at h
  split at h
  · cases h
  · split at h
    · cases h
    · split at h
      · cases h
      · split at h
        · cases h
        · split at h
          · cases h
          · split at h
            · rename_i q
              cases h
              exact ⟨Nat.sub_le _ _, q⟩
            · cases h
theorem f5 {k : Nat} {h : AH} {v w : Value} {l : List Bool} {b : List Nat} (A : Bools h v l) (B : Bytes h w b) (hb : ∀ x ∈ b, x < 256) :
    Tl (F5 (eInv env (k + 20000)) (k + 20000) v w h) fun r => r.1 = .bool true := by
  unfold F5
  have hv : ∀ h', pLen Try.prog #[22] v h' = some (.int .i64 l.length) := fun h' => Sl1.len A u22
  have hw : ∀ h', pLen Try.prog #[32] w h' = some (.int .i64 b.length) := fun h' => B.len
  by_cases h1 : l.length ≤ 300
  · by_cases h2 : b.length ≤ 300
    · repeat (first | (with_reducible apply Tl.val; focus (simp (disch := omega) only [coreA, Int.reduceBEq, base_N9, conv_int u3 u49, conv_int u49 u3, bin_eql_bool u4, bin_neq_bool u4, lives_call, hv, hw] <;> with_reducible rfl)) | with_reducible refine Tl.brT ?_ | with_reducible refine Tl.brF ?_ | with_reducible refine Tl.gd_on ?_ | with_reducible refine Tl.gd3_on ?_ | ((first | with_reducible apply Tl.brC | with_reducible apply Tl.gdC | with_reducible apply Tl.gd3C); focus (simp (disch := omega) only [coreA, Int.reduceBEq, base_N9, conv_int u3 u49, conv_int u49 u3, bin_eql_bool u4, bin_neq_bool u4, lives_call, hv, hw] <;> with_reducible rfl)))
      refine Tl.bind (f14c (k := k + 19500) A (by omega) (by omega)) ?_
      rintro ⟨r, h3⟩ ⟨xv, er, g3, X⟩
      simp only at er g3 X
      subst er
      have S3 := (Stt.init h : Stt Try.prog h.n h h [] []).gain g3 X
      have hpl := putV_len (l := l) (by omega)
      have hp256 : ∀ x ∈ putV l, x < 256 := fun x hx => by
        unfold putV at hx
        rcases List.mem_append.1 hx with hx | hx
        · exact pvarN_256 _ x hx
        · rcases List.mem_cons.1 hx with rfl | hx
          · have := formN_le l; omega
          · split at hx
            · exact (putN_spec 1 _).2.2 x hx
            · cases hx
      repeat (first | (with_reducible apply Tl.val; focus (simp (disch := omega) only [coreA, Int.reduceBEq, base_N9, conv_int u3 u49, conv_int u49 u3, bin_eql_bool u4, bin_neq_bool u4] <;> with_reducible rfl)) | with_reducible refine Tl.brT ?_ | with_reducible refine Tl.brF ?_ | with_reducible refine Tl.gd_on ?_ | with_reducible refine Tl.gd3_on ?_ | ((first | with_reducible apply Tl.brC | with_reducible apply Tl.gdC | with_reducible apply Tl.gd3C); focus (simp (disch := omega) only [coreA, Int.reduceBEq, base_N9, conv_int u3 u49, conv_int u49 u3, bin_eql_bool u4, bin_neq_bool u4] <;> with_reducible rfl)))
      refine Tl.bind (f16c (k := k + 19999) S3 (S3.sl1 (f := u8v) 0 rfl) (by omega)) ?_
      rintro ⟨ov, h4⟩ ⟨S4, g4⟩
      simp only at S4 g4
      refine Tl.append' S4 0 rfl app32 (B.grow S4.grow) (one_u8rows b) (by rw [u8rows_len]; simp; omega) fun ov2 h5 S5 => ?_
      have e5 : u8rows (putV l) ++ u8rows b = u8rows (putV l ++ b) := by simp [u8rows]
      have S5 : Stt Try.prog h.n h h5 [] [(ov2, 1, u8rows (putV l ++ b)), (xv, 1, u8rows (putV l))] := by rw [← e5]; exact S5
      refine Tl.bind (f15c (k := k + 19000) (S5.sl1 (f := u8v) 0 rfl) (fun x hx => ?_) (by simp; omega) (by simp; omega)) ?_
      · rcases List.mem_append.1 hx with hx | hx
        · exact hp256 x hx
        · exact hb x hx
      rintro ⟨r, h6⟩ (⟨l2, n2, mv, eg, hl2, er, g6, X6⟩ | ⟨eg, _⟩)
      · rw [get_put l b (by omega)] at eg
        simp only [Option.some.injEq, Prod.mk.injEq] at eg
        obtain ⟨rfl, rfl⟩ := eg
        simp only at er g6 X6
        subst er
        have S6 := S5.gain g6 X6
        have hxl : ∀ h', pLen Try.prog #[32] xv h' = some (.int .i64 (putV l).length) := fun h' => by
          have := SlV.len (S6.slV 2 rfl) u32 (h' := h')
          rw [u8rows_len] at this
          exact this
        have same := f12c (k := k + 19999) (S6.sl1 (f := bv) 0 rfl) (A.grow S6.grow) (by omega) (by omega) (by omega)
        rw [decide_eq_true rfl] at same
        repeat (first | (with_reducible apply Tl.val; focus (simp (disch := omega) only [coreA, Int.reduceBEq, base_N9, conv_int u3 u49, conv_int u49 u3, bin_eql_bool u4, bin_neq_bool u4, hxl, same] <;> with_reducible rfl)) | with_reducible refine Tl.brT ?_ | with_reducible refine Tl.brF ?_ | with_reducible refine Tl.gd_on ?_ | with_reducible refine Tl.gd3_on ?_ | ((first | with_reducible apply Tl.brC | with_reducible apply Tl.gdC | with_reducible apply Tl.gd3C); focus (simp (disch := omega) only [coreA, Int.reduceBEq, base_N9, conv_int u3 u49, conv_int u49 u3, bin_eql_bool u4, bin_neq_bool u4, hxl, same] <;> with_reducible rfl)))
        refine Tl.bind (f15c (k := k + 19000) (B.grow S6.grow) hb (by omega) (by omega)) ?_
        rintro ⟨r, h7⟩ (⟨l3, n3, uv, eg, hl3, er, g7, X7⟩ | ⟨eg, er, g7⟩)
        · simp only at er g7 X7
          subst er
          obtain ⟨hn3, hp3⟩ := get_some eg
          have S7 := S6.gain g7 X7
          repeat (first | (with_reducible apply Tl.val; focus (simp (disch := omega) only [coreA, Int.reduceBEq, base_N9, conv_int u3 u49, conv_int u49 u3, bin_eql_bool u4, bin_neq_bool u4] <;> with_reducible rfl)) | with_reducible refine Tl.brT ?_ | with_reducible refine Tl.brF ?_ | with_reducible refine Tl.gd_on ?_ | with_reducible refine Tl.gd3_on ?_ | ((first | with_reducible apply Tl.brC | with_reducible apply Tl.gdC | with_reducible apply Tl.gd3C); focus (simp (disch := omega) only [coreA, Int.reduceBEq, base_N9, conv_int u3 u49, conv_int u49 u3, bin_eql_bool u4, bin_neq_bool u4] <;> with_reducible rfl)))
          refine Tl.bind (f14c (k := k + 19500) (S7.sl1 (f := bv) 0 rfl) (by omega) (by omega)) ?_
          rintro ⟨r, h8⟩ ⟨yv, er, g8, X8⟩
          simp only at er g8 X8
          subst er
          have S8 := S7.gain g8 X8
          obtain ⟨tv, ht, Bt⟩ := Bytes.takeS (B.grow S8.grow) hn3
          have hpl3 := putV_len (l := l3) (by omega)
          have same2 := f17c (k := k + 19999) (S8.sl1 (f := u8v) 0 rfl) Bt (by omega) (by simp; omega) (by omega)
          rw [decide_eq_true hp3] at same2
          repeat (first | (with_reducible apply Tl.val; focus (simp (disch := omega) only [coreA, Int.reduceBEq, base_N9, conv_int u3 u49, conv_int u49 u3, bin_eql_bool u4, bin_neq_bool u4, hw, ht, same2] <;> with_reducible rfl)) | with_reducible refine Tl.brT ?_ | with_reducible refine Tl.brF ?_ | with_reducible refine Tl.gd_on ?_ | with_reducible refine Tl.gd3_on ?_ | ((first | with_reducible apply Tl.brC | with_reducible apply Tl.gdC | with_reducible apply Tl.gd3C); focus (simp (disch := omega) only [coreA, Int.reduceBEq, base_N9, conv_int u3 u49, conv_int u49 u3, bin_eql_bool u4, bin_neq_bool u4, hw, ht, same2] <;> with_reducible rfl)))
          exact ⟨_, rfl, rfl⟩
        · simp only at er g7
          subst er
          have hn : ∀ h', pLen Try.prog #[22] (.slice none 0 0) h' = some (.int .i64 0) := fun h' => len_slice u22
          repeat (first | (with_reducible apply Tl.val; focus (simp (disch := omega) only [coreA, Int.reduceBEq, base_N9, conv_int u3 u49, conv_int u49 u3, bin_eql_bool u4, bin_neq_bool u4, hn] <;> with_reducible rfl)) | with_reducible refine Tl.brT ?_ | with_reducible refine Tl.brF ?_ | with_reducible refine Tl.gd_on ?_ | with_reducible refine Tl.gd3_on ?_ | ((first | with_reducible apply Tl.brC | with_reducible apply Tl.gdC | with_reducible apply Tl.gd3C); focus (simp (disch := omega) only [coreA, Int.reduceBEq, base_N9, conv_int u3 u49, conv_int u49 u3, bin_eql_bool u4, bin_neq_bool u4, hn] <;> with_reducible rfl)))
          exact ⟨_, rfl, rfl⟩
      · rw [get_put l b (by omega)] at eg
        cases eg
    · repeat (first | (with_reducible apply Tl.val; focus (simp (disch := omega) only [coreA, Int.reduceBEq, base_N9, conv_int u3 u49, conv_int u49 u3, bin_eql_bool u4, bin_neq_bool u4, lives_call, hv, hw] <;> with_reducible rfl)) | with_reducible refine Tl.brT ?_ | with_reducible refine Tl.brF ?_ | with_reducible refine Tl.gd_on ?_ | with_reducible refine Tl.gd3_on ?_ | ((first | with_reducible apply Tl.brC | with_reducible apply Tl.gdC | with_reducible apply Tl.gd3C); focus (simp (disch := omega) only [coreA, Int.reduceBEq, base_N9, conv_int u3 u49, conv_int u49 u3, bin_eql_bool u4, bin_neq_bool u4, lives_call, hv, hw] <;> with_reducible rfl)))
      exact ⟨_, rfl, rfl⟩
  · repeat (first | (with_reducible apply Tl.val; focus (simp (disch := omega) only [coreA, Int.reduceBEq, base_N9, conv_int u3 u49, conv_int u49 u3, bin_eql_bool u4, bin_neq_bool u4, lives_call, hv, hw] <;> with_reducible rfl)) | with_reducible refine Tl.brT ?_ | with_reducible refine Tl.brF ?_ | with_reducible refine Tl.gd_on ?_ | with_reducible refine Tl.gd3_on ?_ | ((first | with_reducible apply Tl.brC | with_reducible apply Tl.gdC | with_reducible apply Tl.gd3C); focus (simp (disch := omega) only [coreA, Int.reduceBEq, base_N9, conv_int u3 u49, conv_int u49 u3, bin_eql_bool u4, bin_neq_bool u4, lives_call, hv, hw] <;> with_reducible rfl)))
    exact ⟨_, rfl, rfl⟩
end Go.Proofs.Ytoleebigheobcaa.Sh
