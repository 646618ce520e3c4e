/- Which predicates may be: 'pred.node', 'pred.Check'. -/
import Derived.Test.YtjmfokglckaneaaSzVi
import Derived.Test.YtjmfokglckaneaaSzVc
set_option linter.unusedVariables false
set_option linter.unusedSimpArgs false
set_option maxRecDepth 100000
namespace Go.Proofs.Ytjmfokglckaneaa.Sh
open Go Go.RowKit Go.Proofs.Ev
theorem base_Vj : type_of% (And.intro @ld3 (And.intro @ld2 (And.intro @ld4 (And.intro @ld9 (And.intro @ld36 (And.intro @ld45 (And.intro @ld80 (And.intro @ld59 (And.intro @fa45_0 (And.intro @fa45_1 (And.intro @fa45_2 (And.intro @fa80_0 (And.intro @fa80_1 (And.intro @fa80_2 (And.intro @fa59_0 (And.intro @fa59_1 (And.intro @fa59_2 (And.intro @fa59_3 (And.intro @Nat.add_zero (And.intro @ex2_0 (@ex2_1))))))))))))))))))))) := And.intro @ld3 (And.intro @ld2 (And.intro @ld4 (And.intro @ld9 (And.intro @ld36 (And.intro @ld45 (And.intro @ld80 (And.intro @ld59 (And.intro @fa45_0 (And.intro @fa45_1 (And.intro @fa45_2 (And.intro @fa80_0 (And.intro @fa80_1 (And.intro @fa80_2 (And.intro @fa59_0 (And.intro @fa59_1 (And.intro @fa59_2 (And.intro @fa59_3 (And.intro @Nat.add_zero (And.intro @ex2_0 (@ex2_1))))))))))))))))))))
def partsOk (op : Int) (n : Nat) : Bool := if 1 ≤ op ∧ op ≤ 5 then decide (n = 0) else if op = 6 ∨ op = 7 then decide (0 < n) else if op = 8 then decide (n = 1) else false
def valueOk (cols : List ColD) (nd : NodeD) : Bool :=
  if 2 ≤ nd.op ∧ nd.op ≤ 4 then cellOk nd.val && (match cols[nd.col.toNat]? with
    | some c => decide (nd.val.k = c.kind)
    | none => false) else decide (nd.val = cellZ)
def colOk (cols : List ColD) (nd : NodeD) : Bool := if 2 ≤ nd.op ∧ nd.op ≤ 5 then decide (0 ≤ nd.col ∧ nd.col < cols.length) else decide (nd.col = 0)
def nodeOk (cols : List ColD) (nd : NodeD) : Bool := colOk cols nd && (valueOk cols nd && partsOk nd.op nd.parts.length)
theorem find_not {op : Int} (h : ¬ (2 ≤ op ∧ op ≤ 4)) : findE (.int .i64) (.int .i64 op) omapE 0 = some none := by
  have h2 : (op == 2) = false := beq_f (by omega)
  have h3 : (op == 3) = false := beq_f (by omega)
  have h4 : (op == 4) = false := beq_f (by omega)
  simp [findE, omapE, Instr.sameNow, h2, h3, h4]
theorem f72_val {β : Type} {k : Nat} {Q : β → Prop} {n0 : Nat} {h0 h : AH} {b1 m : Nat} {cv pv : Value} {cols : List ColD} {nd : NodeD} (C : Cols h cv cols) (hcell : cellR nd.val) (hcol : 2 ≤ nd.op ∧ nd.op ≤ 4 → 0 ≤ nd.col ∧ nd.col < cols.length)
    (S : Stt Try.prog n0 h0 h [(m, .map omapE 3), (b1, .cells (nrow nd pv) 59 true)] []) {kn : Value → Value → Value → AH → Option β} {kr : Value → AH → Option β}
    (hk : valueOk cols nd = true → ∀ y57 y61 h', Stt Try.prog n0 h0 h' [(m, .map omapE 3), (b1, .cells (nrow nd pv) 59 true)] [] → Tl (kn (.pointer (some ⟨b1, 0, none⟩)) y57 y61 h') Q)
    (hr : valueOk cols nd = false → ∀ h', Stt Try.prog n0 h0 h' [(m, .map omapE 3), (b1, .cells (nrow nd pv) 59 true)] [] → Tl (kr (.bool false) h') Q) :
    Tl (F72_rrlrr (eInv env (k + 20)) (k + 20) cv (.pointer (some ⟨b1, 0, none⟩)) (.bool (decide (2 ≤ nd.op ∧ nd.op ≤ 4))) h kn kr) Q := by
  unfold F72_rrlrr
  have r3 : h.row b1 2 3 = some (crow nd.val) := S.part 1 rfl (by simp [nrow]) rfl
  unfold valueOk at hk hr
  by_cases q : 2 ≤ nd.op ∧ nd.op ≤ 4
  · rw [if_pos q] at hk hr
    rw [decide_eq_true q]
    obtain ⟨q1, q2⟩ := hcol q
    obtain ⟨c, ec⟩ : ∃ x, cols[nd.col.toNat]? = some x := ⟨_, List.getElem?_eq_getElem (by omega)⟩
    obtain ⟨b, o, hp, hrow⟩ := C.at_ ec
    rw [show ((nd.col.toNat : Nat) : Int) = nd.col by omega] at hp
    rw [ec] at hk hr
    simp only at hk hr
    repeat (first | (with_reducible apply Tl.val; focus (simp (disch := omega) only [coreA, Int.reduceBEq, base_Vj, r3] <;> with_reducible rfl)) | (with_reducible first | refine Tl.brT ?_ | refine Tl.brF ?_ | refine Tl.gd_on ?_ | refine Tl.gd3_on ?_) | ((with_reducible first | apply Tl.brC | apply Tl.gdC | apply Tl.gd3C); focus (simp (disch := omega) only [coreA, Int.reduceBEq, base_Vj, r3] <;> with_reducible rfl)))
    refine Tl.call' S (f77c (k := k + 19) nd.val hcell h) fun h1 S1 g1 => ?_
    have c2 : h1.cell b1 2 = some (.int .i64 nd.val.k) := S1.cell 1 rfl rfl
    have c1 : h1.cell b1 1 = some (.int .i64 nd.col) := S1.cell 1 rfl rfl
    have d1 : h1.cell b (o + 1) = some (.int .i64 c.kind) := Ev.cell_of_row (j := 1) (g1.row hrow) (by omega)
    cases q3 : cellOk nd.val with
    | false =>
      rw [q3, Bool.false_and] at hr
      simp only [Bool.false_eq_true, if_false]
      repeat (first | (with_reducible apply Tl.val; focus (simp (disch := omega) only [coreA, Int.reduceBEq, base_Vj] <;> with_reducible rfl)) | (with_reducible first | refine Tl.brT ?_ | refine Tl.brF ?_ | refine Tl.gd_on ?_ | refine Tl.gd3_on ?_) | ((with_reducible first | apply Tl.brC | apply Tl.gdC | apply Tl.gd3C); focus (simp (disch := omega) only [coreA, Int.reduceBEq, base_Vj] <;> with_reducible rfl)))
      exact hr rfl _ S1
    | true =>
      rw [q3, Bool.true_and] at hk hr
      simp only [if_true]
      by_cases q4 : nd.val.k = c.kind
      · repeat (first | (with_reducible apply Tl.val; focus (simp (disch := omega) only [coreA, Int.reduceBEq, base_Vj, c1, c2, hp, d1] <;> with_reducible rfl)) | (with_reducible first | refine Tl.brT ?_ | refine Tl.brF ?_ | refine Tl.gd_on ?_ | refine Tl.gd3_on ?_) | ((with_reducible first | apply Tl.brC | apply Tl.gdC | apply Tl.gd3C); focus (simp (disch := omega) only [coreA, Int.reduceBEq, base_Vj, c1, c2, hp, d1] <;> with_reducible rfl)))
        exact hk (decide_eq_true q4) _ _ _ S1
      · repeat (first | (with_reducible apply Tl.val; focus (simp (disch := omega) only [coreA, Int.reduceBEq, base_Vj, c1, c2, hp, d1] <;> with_reducible rfl)) | (with_reducible first | refine Tl.brT ?_ | refine Tl.brF ?_ | refine Tl.gd_on ?_ | refine Tl.gd3_on ?_) | ((with_reducible first | apply Tl.brC | apply Tl.gdC | apply Tl.gd3C); focus (simp (disch := omega) only [coreA, Int.reduceBEq, base_Vj, c1, c2, hp, d1] <;> with_reducible rfl)))
        exact hr (decide_eq_false q4) _ S1
  · rw [if_neg q] at hk hr
    rw [decide_eq_false q]
    have he : ∀ x y, pBin Try.prog .neq 45 x y (.agg (crow nd.val).toArray) cellZ.v = some (.bool (!decide (nd.val = cellZ))) := fun x y => neqC nd.val cellZ
    cases q3 : decide (nd.val = cellZ) with
    | false =>
      repeat (first | (with_reducible apply Tl.val; focus (simp (disch := omega) only [coreA, Int.reduceBEq, base_Vj, r3, bdC0, he, q3] <;> with_reducible rfl)) | (with_reducible first | refine Tl.brT ?_ | refine Tl.brF ?_ | refine Tl.gd_on ?_ | refine Tl.gd3_on ?_) | ((with_reducible first | apply Tl.brC | apply Tl.gdC | apply Tl.gd3C); focus (simp (disch := omega) only [coreA, Int.reduceBEq, base_Vj, r3, bdC0, he, q3] <;> with_reducible rfl)))
      exact hr q3 _ S
    | true =>
      repeat (first | (with_reducible apply Tl.val; focus (simp (disch := omega) only [coreA, Int.reduceBEq, base_Vj, r3, bdC0, he, q3] <;> with_reducible rfl)) | (with_reducible first | refine Tl.brT ?_ | refine Tl.brF ?_ | refine Tl.gd_on ?_ | refine Tl.gd3_on ?_) | ((with_reducible first | apply Tl.brC | apply Tl.gdC | apply Tl.gd3C); focus (simp (disch := omega) only [coreA, Int.reduceBEq, base_Vj, r3, bdC0, he, q3] <;> with_reducible rfl)))
      exact hk q3 _ _ _ S
theorem zeF : zeroT Try.prog 73 = some .nilFunc := by kernel_rfl
theorem f72c {k : Nat} {h : AH} {cv : Value} {cols : List ColD} {nd : NodeD} {a : Option Addr} {cap : Nat} (C : Cols h cv cols) (hl : cols.length ≤ 9223372036854775807) (hcell : cellR nd.val) :
    Tl (eInv env (k + 30) (.func 72) #[] #[cv, nval nd (.slice a nd.parts.length cap)] h) fun r => r.1 = .bool (nodeOk cols nd) ∧ Grow h r.2 := by
  rw [F72_call]
  unfold F72
  refine Tl.box' (Stt.init h) rfl (by rw [sz59]; rfl) fun b1 h1 S1 g1 => ?_
  have S1 : Stt Try.prog h.n h h1 [(b1, .cells (nrow nd (.slice a nd.parts.length cap)) 59 true)] [] := S1
  have c0 : h1.cell b1 0 = some (.int .i64 nd.op) := S1.cell 0 rfl rfl
  have c1 : h1.cell b1 1 = some (.int .i64 nd.col) := S1.cell 0 rfl rfl
  have hv : ∀ h', pLen Try.prog #[22] cv h' = some (.int .i64 cols.length) := fun h' => C.len
  have he : ∀ op h, eInv env (k + 29) (.func 63) #[] #[.int .i64 op] h = some (.bool (decide (2 ≤ op) && decide (op ≤ 5)), h) := fun op h => f63e (k := k + 28) op h
  -- behind the columns' part
  have rest : ∀ (K : Value × AH → Option (Value × AH)), colOk cols nd = true → (∀ m h', Stt Try.prog h.n h h' [(m, .map omapE 3), (b1, .cells (nrow nd (.slice a nd.parts.length cap)) 59 true)] [] → Tl (K (.map (some m), h')) fun r => r.1 = .bool (nodeOk cols nd) ∧ Grow h r.2) →
      Tl (bnd (eInv env (k + 29) (.func 78) #[] #[] h1) K) fun r => r.1 = .bool (nodeOk cols nd) ∧ Grow h r.2 := by
    intro K _ hK
    refine Tl.bind (f78c (k := k + 28) h1) ?_
    rintro ⟨r, h2⟩ ⟨m, er, S2'⟩
    simp only at er S2'
    subst er
    exact hK m h2 (S1.join S2')
  have tail : colOk cols nd = true → Tl (bnd (eInv env (k + 29) (.func 78) #[] #[] h1) fun x35 =>
    bnd (pFieldAddr Try.prog 59 (.pointer (some ⟨b1, 0, none⟩)) 0) fun x36 =>
    bnd (pLoad Try.prog 3 x36 x35.2) fun x37 =>
    bnd (pLookup Try.prog 101 x35.1 x37 true x35.2) fun x38 =>
    bnd (pExtract x38 0) fun x39 =>
    bnd (pExtract x38 1) fun x40 =>
    chkK ((!true || !true || (sameO (pLoad Try.prog 3 x36 h1) x37 && sameO (pLoad Try.prog 3 x36 x35.2) x37)) && true) <|
    F72_rrlrr (eInv env (k + 29)) (k + 29) cv (.pointer (some ⟨b1, 0, none⟩)) x40 x35.2
    (fun y3 y57 y61 h_1 =>
    bnd (pFieldAddr Try.prog 59 y3 3) fun x62 =>
    bnd (pLoad Try.prog 36 x62 h_1) fun x63 =>
    bnd (pLen Try.prog #[36] x63 h_1) fun x64 =>
    bnd (pFieldAddr Try.prog 59 y3 0) fun x65 =>
    bnd (pLoad Try.prog 3 x65 h_1) fun x66 =>
    bnd (pBin Try.prog .eql 3 (.tmp 66) (.const (.int .i64 1)) x66 (.int .i64 1)) fun x68 =>
    F72_rllrrlrrr (eInv env (k + 29)) (k + 29) x64 x66 x68 h_1
    (fun y7 y66 y67 h_2 =>
    brV y67
    (bnd (pBin Try.prog .eql 3 (.tmp 73) (.const (.int .i64 0)) y7 (.int .i64 0)) fun x74 =>
    some (x74, h_2))
    (bnd (pBin Try.prog .eql 3 (.tmp 66) (.const (.int .i64 6)) y66 (.int .i64 6)) fun x76 =>
    F72_rlrrlrrlrrr (eInv env (k + 29)) (k + 29) y7 y66 x76 h_2
    (fun y7_3 y66_4 y75 h_5 =>
    brV y75
    (bnd (pBin Try.prog .gtr 3 (.tmp 78) (.const (.int .i64 0)) y7_3 (.int .i64 0)) fun x79 =>
    some (x79, h_5))
    (bnd (pBin Try.prog .eql 3 (.tmp 66) (.const (.int .i64 8)) y66_4 (.int .i64 8)) fun x81 =>
    brV x81
    (bnd (pBin Try.prog .eql 3 (.tmp 82) (.const (.int .i64 1)) y7_3 (.int .i64 1)) fun x83 =>
    some (x83, h_5))
    (some ((.bool false), h_5)))))))
    (fun y4 h_6 =>
    some (y4, h_6))) fun r => r.1 = .bool (nodeOk cols nd) ∧ Grow h r.2 := by
    intro hco
    refine rest _ hco fun m h2 S2 => ?_
    have d0 : h2.cell b1 0 = some (.int .i64 nd.op) := S2.cell 1 rfl rfl
    have hg := S2.sta.mem.at_ (i := 0) rfl
    have hlk : ∃ z, pLookup Try.prog 101 (.map (some m)) (.int .i64 nd.op) true h2 = some (.tuple #[z, .bool (decide (2 ≤ nd.op ∧ nd.op ≤ 4))]) := by
      by_cases q : 2 ≤ nd.op ∧ nd.op ≤ 4
      · obtain ⟨f, j, hf, _⟩ := ordf_call (k := 0) nd.op 0 q
        rw [decide_eq_true q]
        exact ⟨_, lookup_at hg omapT u3 rfl hf⟩
      · rw [decide_eq_false q]
        exact ⟨_, lookup_none hg omapT u3 rfl (find_not q) zeF rfl⟩
    obtain ⟨z, hlk⟩ := hlk
    repeat (first | (with_reducible apply Tl.val; focus (simp (disch := omega) only [coreA, Int.reduceBEq, base_Vj, d0, hlk] <;> with_reducible rfl)) | (with_reducible first | refine Tl.brT ?_ | refine Tl.brF ?_ | refine Tl.gd_on ?_ | refine Tl.gd3_on ?_) | ((with_reducible first | apply Tl.brC | apply Tl.gdC | apply Tl.gd3C); focus (simp (disch := omega) only [coreA, Int.reduceBEq, base_Vj, d0, hlk] <;> with_reducible rfl)))
    refine Tl.chk ?_ ?_
    · simp only [ld3, d0, c0, Nat.add_zero, sameO_some, sameV_int, Bool.and_self, Bool.or_true, Bool.and_true]
    refine f72_val (k := k + 9) (C.grow S2.grow) hcell (fun q => ?_) S2 (fun q y57 y61 h3 S3 => ?_) fun q h3 S3 => ?_
    · unfold colOk at hco
      rw [if_pos ⟨q.1, by omega⟩] at hco
      exact of_decide_eq_true hco
    · have e5 : h3.cell b1 5 = some (.slice a nd.parts.length cap) := S3.cell 1 rfl rfl
      have e0 : h3.cell b1 0 = some (.int .i64 nd.op) := S3.cell 1 rfl rfl
      have hp : ∀ h' : AH, pLen Try.prog #[36] (.slice a nd.parts.length cap) h' = some (.int .i64 nd.parts.length) := fun h' => len_slice u36
      have en : nodeOk cols nd = partsOk nd.op nd.parts.length := by unfold nodeOk; rw [hco, q, Bool.true_and, Bool.true_and]
      rw [en]
      unfold F72_rllrrlrrr F72_rlrrlrrlrrr partsOk
      by_cases o1 : nd.op = 1
      · rw [if_pos (by omega)]
        repeat (first | (with_reducible apply Tl.val; focus (simp (disch := omega) only [coreA, Int.reduceBEq, base_Vj, e5, e0, hp] <;> with_reducible rfl)) | (with_reducible first | refine Tl.brT ?_ | refine Tl.brF ?_ | refine Tl.gd_on ?_ | refine Tl.gd3_on ?_) | ((with_reducible first | apply Tl.brC | apply Tl.gdC | apply Tl.gd3C); focus (simp (disch := omega) only [coreA, Int.reduceBEq, base_Vj, e5, e0, hp] <;> with_reducible rfl)))
        exact ⟨_, rfl, by by_cases hz : nd.parts.length = 0 <;> simp [hz], S3.grow⟩
      by_cases o2 : nd.op = 2
      · rw [if_pos (by omega)]
        repeat (first | (with_reducible apply Tl.val; focus (simp (disch := omega) only [coreA, Int.reduceBEq, base_Vj, e5, e0, hp] <;> with_reducible rfl)) | (with_reducible first | refine Tl.brT ?_ | refine Tl.brF ?_ | refine Tl.gd_on ?_ | refine Tl.gd3_on ?_) | ((with_reducible first | apply Tl.brC | apply Tl.gdC | apply Tl.gd3C); focus (simp (disch := omega) only [coreA, Int.reduceBEq, base_Vj, e5, e0, hp] <;> with_reducible rfl)))
        exact ⟨_, rfl, by by_cases hz : nd.parts.length = 0 <;> simp [hz], S3.grow⟩
      by_cases o3 : nd.op = 3
      · rw [if_pos (by omega)]
        repeat (first | (with_reducible apply Tl.val; focus (simp (disch := omega) only [coreA, Int.reduceBEq, base_Vj, e5, e0, hp] <;> with_reducible rfl)) | (with_reducible first | refine Tl.brT ?_ | refine Tl.brF ?_ | refine Tl.gd_on ?_ | refine Tl.gd3_on ?_) | ((with_reducible first | apply Tl.brC | apply Tl.gdC | apply Tl.gd3C); focus (simp (disch := omega) only [coreA, Int.reduceBEq, base_Vj, e5, e0, hp] <;> with_reducible rfl)))
        exact ⟨_, rfl, by by_cases hz : nd.parts.length = 0 <;> simp [hz], S3.grow⟩
      by_cases o4 : nd.op = 4
      · rw [if_pos (by omega)]
        repeat (first | (with_reducible apply Tl.val; focus (simp (disch := omega) only [coreA, Int.reduceBEq, base_Vj, e5, e0, hp] <;> with_reducible rfl)) | (with_reducible first | refine Tl.brT ?_ | refine Tl.brF ?_ | refine Tl.gd_on ?_ | refine Tl.gd3_on ?_) | ((with_reducible first | apply Tl.brC | apply Tl.gdC | apply Tl.gd3C); focus (simp (disch := omega) only [coreA, Int.reduceBEq, base_Vj, e5, e0, hp] <;> with_reducible rfl)))
        exact ⟨_, rfl, by by_cases hz : nd.parts.length = 0 <;> simp [hz], S3.grow⟩
      by_cases o5 : nd.op = 5
      · rw [if_pos (by omega)]
        repeat (first | (with_reducible apply Tl.val; focus (simp (disch := omega) only [coreA, Int.reduceBEq, base_Vj, e5, e0, hp] <;> with_reducible rfl)) | (with_reducible first | refine Tl.brT ?_ | refine Tl.brF ?_ | refine Tl.gd_on ?_ | refine Tl.gd3_on ?_) | ((with_reducible first | apply Tl.brC | apply Tl.gdC | apply Tl.gd3C); focus (simp (disch := omega) only [coreA, Int.reduceBEq, base_Vj, e5, e0, hp] <;> with_reducible rfl)))
        exact ⟨_, rfl, by by_cases hz : nd.parts.length = 0 <;> simp [hz], S3.grow⟩
      rw [if_neg (by omega)]
      by_cases o6 : nd.op = 6
      · rw [if_pos (by omega)]
        repeat (first | (with_reducible apply Tl.val; focus (simp (disch := omega) only [coreA, Int.reduceBEq, base_Vj, e5, e0, hp] <;> with_reducible rfl)) | (with_reducible first | refine Tl.brT ?_ | refine Tl.brF ?_ | refine Tl.gd_on ?_ | refine Tl.gd3_on ?_) | ((with_reducible first | apply Tl.brC | apply Tl.gdC | apply Tl.gd3C); focus (simp (disch := omega) only [coreA, Int.reduceBEq, base_Vj, e5, e0, hp] <;> with_reducible rfl)))
        exact ⟨_, rfl, by by_cases hz : nd.parts.length = 0 <;> simp [hz], S3.grow⟩
      by_cases o7 : nd.op = 7
      · rw [if_pos (by omega)]
        repeat (first | (with_reducible apply Tl.val; focus (simp (disch := omega) only [coreA, Int.reduceBEq, base_Vj, e5, e0, hp] <;> with_reducible rfl)) | (with_reducible first | refine Tl.brT ?_ | refine Tl.brF ?_ | refine Tl.gd_on ?_ | refine Tl.gd3_on ?_) | ((with_reducible first | apply Tl.brC | apply Tl.gdC | apply Tl.gd3C); focus (simp (disch := omega) only [coreA, Int.reduceBEq, base_Vj, e5, e0, hp] <;> with_reducible rfl)))
        exact ⟨_, rfl, by by_cases hz : nd.parts.length = 0 <;> simp [hz], S3.grow⟩
      rw [if_neg (by omega)]
      by_cases o8 : nd.op = 8
      · rw [if_pos (by omega)]
        repeat (first | (with_reducible apply Tl.val; focus (simp (disch := omega) only [coreA, Int.reduceBEq, base_Vj, e5, e0, hp] <;> with_reducible rfl)) | (with_reducible first | refine Tl.brT ?_ | refine Tl.brF ?_ | refine Tl.gd_on ?_ | refine Tl.gd3_on ?_) | ((with_reducible first | apply Tl.brC | apply Tl.gdC | apply Tl.gd3C); focus (simp (disch := omega) only [coreA, Int.reduceBEq, base_Vj, e5, e0, hp] <;> with_reducible rfl)))
        exact ⟨_, rfl, by by_cases hz : nd.parts.length = 1 <;> simp [hz] <;> omega, S3.grow⟩
      rw [if_neg (by omega)]
      repeat (first | (with_reducible apply Tl.val; focus (simp (disch := omega) only [coreA, Int.reduceBEq, base_Vj, e5, e0, hp] <;> with_reducible rfl)) | (with_reducible first | refine Tl.brT ?_ | refine Tl.brF ?_ | refine Tl.gd_on ?_ | refine Tl.gd3_on ?_) | ((with_reducible first | apply Tl.brC | apply Tl.gdC | apply Tl.gd3C); focus (simp (disch := omega) only [coreA, Int.reduceBEq, base_Vj, e5, e0, hp] <;> with_reducible rfl)))
      exact ⟨_, rfl, rfl, S3.grow⟩
    · have en : nodeOk cols nd = false := by unfold nodeOk; rw [q, Bool.false_and, Bool.and_false]
      rw [en]
      exact ⟨_, rfl, rfl, S3.grow⟩
  have bad : colOk cols nd = false → nodeOk cols nd = false := fun q => by unfold nodeOk; rw [q, Bool.false_and]
  by_cases q : 2 ≤ nd.op ∧ nd.op ≤ 5
  · obtain ⟨q1, q2⟩ := q
    by_cases q3 : 0 ≤ nd.col
    · by_cases q4 : nd.col < cols.length
      · have hco : colOk cols nd = true := by unfold colOk; rw [if_pos ⟨q1, q2⟩]; exact decide_eq_true ⟨q3, q4⟩
        repeat (first | (with_reducible apply Tl.val; focus (simp (disch := omega) only [coreA, Int.reduceBEq, base_Vj, c0, c1, he, hv] <;> with_reducible rfl)) | (with_reducible first | refine Tl.brT ?_ | refine Tl.brF ?_ | refine Tl.gd_on ?_ | refine Tl.gd3_on ?_) | ((with_reducible first | apply Tl.brC | apply Tl.gdC | apply Tl.gd3C); focus (simp (disch := omega) only [coreA, Int.reduceBEq, base_Vj, c0, c1, he, hv] <;> with_reducible rfl)))
        exact tail hco
      · have hco : colOk cols nd = false := by unfold colOk; rw [if_pos ⟨q1, q2⟩]; exact decide_eq_false fun h => q4 h.2
        rw [bad hco]
        repeat (first | (with_reducible apply Tl.val; focus (simp (disch := omega) only [coreA, Int.reduceBEq, base_Vj, c0, c1, he, hv] <;> with_reducible rfl)) | (with_reducible first | refine Tl.brT ?_ | refine Tl.brF ?_ | refine Tl.gd_on ?_ | refine Tl.gd3_on ?_) | ((with_reducible first | apply Tl.brC | apply Tl.gdC | apply Tl.gd3C); focus (simp (disch := omega) only [coreA, Int.reduceBEq, base_Vj, c0, c1, he, hv] <;> with_reducible rfl)))
        exact ⟨_, rfl, rfl, S1.grow⟩
    · have hco : colOk cols nd = false := by unfold colOk; rw [if_pos ⟨q1, q2⟩]; exact decide_eq_false fun h => q3 h.1
      rw [bad hco]
      repeat (first | (with_reducible apply Tl.val; focus (simp (disch := omega) only [coreA, Int.reduceBEq, base_Vj, c0, c1, he, hv] <;> with_reducible rfl)) | (with_reducible first | refine Tl.brT ?_ | refine Tl.brF ?_ | refine Tl.gd_on ?_ | refine Tl.gd3_on ?_) | ((with_reducible first | apply Tl.brC | apply Tl.gdC | apply Tl.gd3C); focus (simp (disch := omega) only [coreA, Int.reduceBEq, base_Vj, c0, c1, he, hv] <;> with_reducible rfl)))
      exact ⟨_, rfl, rfl, S1.grow⟩
  · have hq : (decide (2 ≤ nd.op) && decide (nd.op ≤ 5)) = false := by
      rw [← Bool.decide_and]; exact decide_eq_false q
    by_cases q3 : nd.col = 0
    · have hco : colOk cols nd = true := by unfold colOk; rw [if_neg q]; exact decide_eq_true q3
      repeat (first | (with_reducible apply Tl.val; focus (simp (disch := omega) only [coreA, Int.reduceBEq, base_Vj, c0, c1, he, hv, hq] <;> with_reducible rfl)) | (with_reducible first | refine Tl.brT ?_ | refine Tl.brF ?_ | refine Tl.gd_on ?_ | refine Tl.gd3_on ?_) | ((with_reducible first | apply Tl.brC | apply Tl.gdC | apply Tl.gd3C); focus (simp (disch := omega) only [coreA, Int.reduceBEq, base_Vj, c0, c1, he, hv, hq] <;> with_reducible rfl)))
      exact tail hco
    · have hco : colOk cols nd = false := by unfold colOk; rw [if_neg q]; exact decide_eq_false q3
      rw [bad hco]
      repeat (first | (with_reducible apply Tl.val; focus (simp (disch := omega) only [coreA, Int.reduceBEq, base_Vj, c0, c1, he, hv, hq] <;> with_reducible rfl)) | (with_reducible first | refine Tl.brT ?_ | refine Tl.brF ?_ | refine Tl.gd_on ?_ | refine Tl.gd3_on ?_) | ((with_reducible first | apply Tl.brC | apply Tl.gdC | apply Tl.gd3C); focus (simp (disch := omega) only [coreA, Int.reduceBEq, base_Vj, c0, c1, he, hv, hq] <;> with_reducible rfl)))
      exact ⟨_, rfl, rfl, S1.grow⟩
end Go.Proofs.Ytjmfokglckaneaa.Sh
