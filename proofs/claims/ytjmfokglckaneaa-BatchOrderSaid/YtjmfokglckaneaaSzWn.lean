/- What the document tells of a predicate and a row. -/
import Derived.Test.YtjmfokglckaneaaSzWl
import Derived.Test.YtjmfokglckaneaaSzVm
set_option linter.unusedVariables false
set_option linter.unusedSimpArgs false
set_option maxRecDepth 100000
namespace Go.Proofs.Ytjmfokglckaneaa.Sh
open Go Go.RowKit Go.Proofs.Ev
theorem base_Wn : type_of% (And.intro @ld3 (And.intro @ld2 (And.intro @ld4 (And.intro @ld9 (And.intro @ld36 (And.intro @ld45 (And.intro @ld59 (And.intro @ld37 (And.intro @fa45_0 (And.intro @fa45_1 (And.intro @fa45_2 (And.intro @fa59_0 (And.intro @fa59_1 (And.intro @fa59_2 (And.intro @fa59_3 (@Nat.add_zero)))))))))))))))) := And.intro @ld3 (And.intro @ld2 (And.intro @ld4 (And.intro @ld9 (And.intro @ld36 (And.intro @ld45 (And.intro @ld59 (And.intro @ld37 (And.intro @fa45_0 (And.intro @fa45_1 (And.intro @fa45_2 (And.intro @fa59_0 (And.intro @fa59_1 (And.intro @fa59_2 (And.intro @fa59_3 (@Nat.add_zero)))))))))))))))
theorem f42c {k : Nat} (nd : NodeD) (ho : 2 ≤ nd.op ∧ nd.op ≤ 5) {h : AH} {a : Option Addr} {m c : Nat} {rv : Value} {row : List CellD} (R : Cells h rv row) (hl : row.length ≤ 2 ^ 62) :
    Tl (eInv env (k + 20) (.func 42) #[] #[.agg (nrow nd (.slice a m c)).toArray, rv] h) fun r => r.1 = .bool (leafB nd row) ∧ Grow h r.2 := by
  rw [F42_call]
  unfold F42
  refine Tl.box' (Stt.init h) rfl (by rw [sz59]; rfl) fun b1 h1 S1 g1 => ?_
  have S1 : Stt Try.prog h.n h h1 [(b1, .cells (nrow nd (.slice a m c)) 59 true)] [] := S1
  have c0 : h1.cell b1 0 = some (.int .i64 nd.op) := S1.cell 0 rfl rfl
  have c1 : h1.cell b1 1 = some (.int .i64 nd.col) := S1.cell 0 rfl rfl
  have hv : ∀ h', pLen Try.prog #[37] rv h' = some (.int .i64 row.length) := fun h' => R.len
  unfold leafB
  by_cases q0 : 0 ≤ nd.col
  · rw [if_pos q0]
    by_cases q1 : nd.col < row.length
    · obtain ⟨x, ex⟩ : ∃ x, row[nd.col.toNat]? = some x := ⟨_, List.getElem?_eq_getElem (by omega)⟩
      obtain ⟨b, o, hp, hrow⟩ := R.at_ ex
      rw [show ((nd.col.toNat : Nat) : Int) = nd.col by omega] at hp
      have hrow1 := g1.row hrow
      rw [ex]
      simp only
      repeat (first | (with_reducible apply Tl.val; focus (simp (disch := omega) only [coreA, Int.reduceBEq, base_Wn, c1, c0, hv, hp, hrow1] <;> with_reducible rfl)) | (with_reducible first | refine Tl.brT ?_ | refine Tl.brF ?_ | refine Tl.gd_on ?_ | refine Tl.gd3_on ?_) | ((with_reducible first | apply Tl.brC | apply Tl.gdC | apply Tl.gd3C); focus (simp (disch := omega) only [coreA, Int.reduceBEq, base_Wn, c1, c0, hv, hp, hrow1] <;> with_reducible rfl)))
      refine Tl.alloc' S1 ze45 (by rfl) fun b2 h2 S2 g2 => ?_
      refine Tl.store' S2 0 rfl sz45 rfl rfl (by simp [Value.cells]) fun h3 S3 k3 => ?_
      have S3 : Stt Try.prog h.n h h3 [(b2, .cells (crow x) 45 true), (b1, .cells (nrow nd (.slice a m c)) 59 true)] [] := S3
      have c0 : h3.cell b1 0 = some (.int .i64 nd.op) := S3.cell 1 rfl rfl
      have d0 : h3.cell b2 0 = some (.int .i64 x.k) := S3.cell 0 rfl rfl
      by_cases q5 : nd.op = 5
      · rw [if_pos q5]
        by_cases qn : x.k = 0
        · rw [show (x.k == 0) = true by simp [qn]]
          repeat (first | (with_reducible apply Tl.val; focus (simp (disch := omega) only [coreA, Int.reduceBEq, base_Wn, c0, d0] <;> with_reducible rfl)) | (with_reducible first | refine Tl.brT ?_ | refine Tl.brF ?_ | refine Tl.gd_on ?_ | refine Tl.gd3_on ?_) | ((with_reducible first | apply Tl.brC | apply Tl.gdC | apply Tl.gd3C); focus (simp (disch := omega) only [coreA, Int.reduceBEq, base_Wn, c0, d0] <;> with_reducible rfl)))
          exact ⟨_, rfl, by simp [qn], S3.grow⟩
        · rw [show (x.k == 0) = false by simp [qn]]
          repeat (first | (with_reducible apply Tl.val; focus (simp (disch := omega) only [coreA, Int.reduceBEq, base_Wn, c0, d0] <;> with_reducible rfl)) | (with_reducible first | refine Tl.brT ?_ | refine Tl.brF ?_ | refine Tl.gd_on ?_ | refine Tl.gd3_on ?_) | ((with_reducible first | apply Tl.brC | apply Tl.gdC | apply Tl.gd3C); focus (simp (disch := omega) only [coreA, Int.reduceBEq, base_Wn, c0, d0] <;> with_reducible rfl)))
          exact ⟨_, rfl, by simp [qn], S3.grow⟩
      · rw [if_neg q5]
        by_cases qn : x.k = 0
        · rw [show (x.k != 0) = false by simp [qn], Bool.false_and]
          repeat (first | (with_reducible apply Tl.val; focus (simp (disch := omega) only [coreA, Int.reduceBEq, base_Wn, c0, d0] <;> with_reducible rfl)) | (with_reducible first | refine Tl.brT ?_ | refine Tl.brF ?_ | refine Tl.gd_on ?_ | refine Tl.gd3_on ?_) | ((with_reducible first | apply Tl.brC | apply Tl.gdC | apply Tl.gd3C); focus (simp (disch := omega) only [coreA, Int.reduceBEq, base_Wn, c0, d0] <;> with_reducible rfl)))
          exact ⟨_, rfl, rfl, S3.grow⟩
        · rw [show (x.k != 0) = true by simp [qn], Bool.true_and]
          have r2 : h3.row b2 0 3 = some (crow x) := S3.row 0 rfl rfl
          have r1 : h3.row b1 2 3 = some (crow nd.val) := S3.part 1 rfl (by simp [nrow]) rfl
          repeat (first | (with_reducible apply Tl.val; focus (simp (disch := omega) only [coreA, Int.reduceBEq, base_Wn, c0, d0, r2, r1] <;> with_reducible rfl)) | (with_reducible first | refine Tl.brT ?_ | refine Tl.brF ?_ | refine Tl.gd_on ?_ | refine Tl.gd3_on ?_) | ((with_reducible first | apply Tl.brC | apply Tl.gdC | apply Tl.gd3C); focus (simp (disch := omega) only [coreA, Int.reduceBEq, base_Wn, c0, d0, r2, r1] <;> with_reducible rfl)))
          refine Tl.call' S3 (f66c (k := k + 17) x nd.val h3) fun h4 S4 g4 => ?_
          have c0 : h4.cell b1 0 = some (.int .i64 nd.op) := S4.cell 1 rfl rfl
          unfold ordB
          simp only [G42_9]
          by_cases o2 : nd.op = 2
          · rw [if_pos o2]
            by_cases z : x.cmp nd.val = 0
            · repeat (first | (with_reducible apply Tl.val; focus (simp (disch := omega) only [coreA, Int.reduceBEq, base_Wn, c0] <;> with_reducible rfl)) | (with_reducible first | refine Tl.brT ?_ | refine Tl.brF ?_ | refine Tl.gd_on ?_ | refine Tl.gd3_on ?_) | ((with_reducible first | apply Tl.brC | apply Tl.gdC | apply Tl.gd3C); focus (simp (disch := omega) only [coreA, Int.reduceBEq, base_Wn, c0] <;> with_reducible rfl)))
              exact ⟨_, rfl, by simp [z], S4.grow⟩
            · repeat (first | (with_reducible apply Tl.val; focus (simp (disch := omega) only [coreA, Int.reduceBEq, base_Wn, c0] <;> with_reducible rfl)) | (with_reducible first | refine Tl.brT ?_ | refine Tl.brF ?_ | refine Tl.gd_on ?_ | refine Tl.gd3_on ?_) | ((with_reducible first | apply Tl.brC | apply Tl.gdC | apply Tl.gd3C); focus (simp (disch := omega) only [coreA, Int.reduceBEq, base_Wn, c0] <;> with_reducible rfl)))
              exact ⟨_, rfl, by simp [z], S4.grow⟩
          · rw [if_neg o2]
            by_cases o3 : nd.op = 3
            · rw [if_pos o3]
              by_cases z : x.cmp nd.val < 0
              · repeat (first | (with_reducible apply Tl.val; focus (simp (disch := omega) only [coreA, Int.reduceBEq, base_Wn, c0] <;> with_reducible rfl)) | (with_reducible first | refine Tl.brT ?_ | refine Tl.brF ?_ | refine Tl.gd_on ?_ | refine Tl.gd3_on ?_) | ((with_reducible first | apply Tl.brC | apply Tl.gdC | apply Tl.gd3C); focus (simp (disch := omega) only [coreA, Int.reduceBEq, base_Wn, c0] <;> with_reducible rfl)))
                exact ⟨_, rfl, by simp [z], S4.grow⟩
              · repeat (first | (with_reducible apply Tl.val; focus (simp (disch := omega) only [coreA, Int.reduceBEq, base_Wn, c0] <;> with_reducible rfl)) | (with_reducible first | refine Tl.brT ?_ | refine Tl.brF ?_ | refine Tl.gd_on ?_ | refine Tl.gd3_on ?_) | ((with_reducible first | apply Tl.brC | apply Tl.gdC | apply Tl.gd3C); focus (simp (disch := omega) only [coreA, Int.reduceBEq, base_Wn, c0] <;> with_reducible rfl)))
                exact ⟨_, rfl, by simp [z], S4.grow⟩
            · rw [if_neg o3]
              by_cases z : x.cmp nd.val > 0
              · repeat (first | (with_reducible apply Tl.val; focus (simp (disch := omega) only [coreA, Int.reduceBEq, base_Wn, c0] <;> with_reducible rfl)) | (with_reducible first | refine Tl.brT ?_ | refine Tl.brF ?_ | refine Tl.gd_on ?_ | refine Tl.gd3_on ?_) | ((with_reducible first | apply Tl.brC | apply Tl.gdC | apply Tl.gd3C); focus (simp (disch := omega) only [coreA, Int.reduceBEq, base_Wn, c0] <;> with_reducible rfl)))
                exact ⟨_, rfl, by rw [decide_eq_true z], S4.grow⟩
              · repeat (first | (with_reducible apply Tl.val; focus (simp (disch := omega) only [coreA, Int.reduceBEq, base_Wn, c0] <;> with_reducible rfl)) | (with_reducible first | refine Tl.brT ?_ | refine Tl.brF ?_ | refine Tl.gd_on ?_ | refine Tl.gd3_on ?_) | ((with_reducible first | apply Tl.brC | apply Tl.gdC | apply Tl.gd3C); focus (simp (disch := omega) only [coreA, Int.reduceBEq, base_Wn, c0] <;> with_reducible rfl)))
                exact ⟨_, rfl, by rw [decide_eq_false z], S4.grow⟩
    · rw [List.getElem?_eq_none (by omega)]
      repeat (first | (with_reducible apply Tl.val; focus (simp (disch := omega) only [coreA, Int.reduceBEq, base_Wn, c1, hv] <;> with_reducible rfl)) | (with_reducible first | refine Tl.brT ?_ | refine Tl.brF ?_ | refine Tl.gd_on ?_ | refine Tl.gd3_on ?_) | ((with_reducible first | apply Tl.brC | apply Tl.gdC | apply Tl.gd3C); focus (simp (disch := omega) only [coreA, Int.reduceBEq, base_Wn, c1, hv] <;> with_reducible rfl)))
      exact ⟨_, rfl, rfl, S1.grow⟩
  · rw [if_neg q0]
    repeat (first | (with_reducible apply Tl.val; focus (simp (disch := omega) only [coreA, Int.reduceBEq, base_Wn, c1, hv] <;> with_reducible rfl)) | (with_reducible first | refine Tl.brT ?_ | refine Tl.brF ?_ | refine Tl.gd_on ?_ | refine Tl.gd3_on ?_) | ((with_reducible first | apply Tl.brC | apply Tl.gdC | apply Tl.gd3C); focus (simp (disch := omega) only [coreA, Int.reduceBEq, base_Wn, c1, hv] <;> with_reducible rfl)))
    exact ⟨_, rfl, rfl, S1.grow⟩
/-- A node's parts, as far as they stand ahead. -/
def refParts (i : Nat) (ns : List Int) : List Int := ns.map fun (n : Int) => if 0 ≤ n ∧ n < (i : Int) then n else (-1 : Int)
theorem f40_loop {β : Type} {inv : Inv} {k : Nat} {Q : β → Prop} {h0 : AH} {v pv : Value} {i b o : Nat} {ns : List Int} (N : IntsZ h0 pv ns) (hpp : pIndexAddr Try.prog 35 v (.int .i64 i) = some (.pointer (some ⟨b, o, none⟩))) (hc5 : h0.cell b (o + 5) = some pv) (hi2 : i ≤ 2 ^ 40) (hl : ns.length ≤ 1000)
    {ke0 : Value → Value → Value → Value → Value → AH → Option β} (n : Nat) :
    ∀ {m j : Nat} {h : AH} {ov : Value}, m + n = ns.length → n < j → Stt Try.prog h0.n h0 h [] [(ov, 1, irows (refParts i (ns.take m)))] →
      (∀ h' ov' y1 y2, Stt Try.prog h0.n h0 h' [] [(ov', 1, irows (refParts i ns))] → Tl (ke0 v (.int .i64 i) ov' y1 y2 h') Q) →
      Tl (F40_lrlrr inv k j v (.int .i64 i) ov (.int .i64 m) h ke0) Q := by
  have hv : ∀ h', pLen Try.prog #[36] pv h' = some (.int .i64 ns.length) := fun h' => N.len
  induction n with
  | zero =>
    intro m j h ov hm hj S hk
    obtain ⟨j, rfl⟩ : ∃ q, j = q + 1 := ⟨j - 1, by omega⟩
    have c5 := S.grow.cell hc5
    rw [List.take_of_length_le (by omega)] at S
    simp only [F40_lrlrr]
    repeat (first | (with_reducible apply Tl.val; focus (simp (disch := omega) only [coreA, Int.reduceBEq, base_Wn, hpp, c5, hv] <;> with_reducible rfl)) | (with_reducible first | refine Tl.brT ?_ | refine Tl.brF ?_ | refine Tl.gd_on ?_ | refine Tl.gd3_on ?_) | ((with_reducible first | apply Tl.brC | apply Tl.gdC | apply Tl.gd3C); focus (simp (disch := omega) only [coreA, Int.reduceBEq, base_Wn, hpp, c5, hv] <;> with_reducible rfl)))
    exact hk _ _ _ _ S
  | succ n ih =>
    intro m j h ov hm hj S hk
    obtain ⟨j, rfl⟩ : ∃ q, j = q + 1 := ⟨j - 1, by omega⟩
    obtain ⟨x, ex⟩ : ∃ x, ns[m]? = some x := ⟨_, List.getElem?_eq_getElem (by omega)⟩
    have c5 := S.grow.cell hc5
    obtain ⟨b2, o2, hp, hc⟩ := (N.grow S.grow).at_ ex
    have e : (m : Int) + 1 = ((m + 1 : Nat) : Int) := by omega
    have hlen : (irows (refParts i (ns.take m))).length ≤ 1000 := by rw [irows_len]; unfold refParts; simp; omega
    have hsn : refParts i (ns.take (m + 1)) = refParts i (ns.take m) ++ [if 0 ≤ x ∧ x < i then x else -1] := by
      unfold refParts; rw [List.take_add_one, ex]; simp
    simp only [F40_lrlrr, F40_rlrllrllrlrr]
    by_cases q0 : 0 ≤ x
    · by_cases q1 : x < i
      · rw [if_pos ⟨q0, q1⟩] at hsn
        repeat (first | (with_reducible apply Tl.val; focus (simp (disch := omega) only [coreA, Int.reduceBEq, base_Wn, hpp, c5, hv, hp, hc] <;> with_reducible rfl)) | (with_reducible first | refine Tl.brT ?_ | refine Tl.brF ?_ | refine Tl.gd_on ?_ | refine Tl.gd3_on ?_) | ((with_reducible first | apply Tl.brC | apply Tl.gdC | apply Tl.gd3C); focus (simp (disch := omega) only [coreA, Int.reduceBEq, base_Wn, hpp, c5, hv, hp, hc] <;> with_reducible rfl)))
        refine Tl.push S 0 rfl app36 (bs36 _ _) rfl rfl (by omega) fun ov' h1 S1 => ?_
        rw [irows_snoc, ← hsn] at S1
        repeat (first | (with_reducible apply Tl.val; focus (simp (disch := omega) only [coreA, Int.reduceBEq, base_Wn] <;> with_reducible rfl)) | (with_reducible first | refine Tl.brT ?_ | refine Tl.brF ?_ | refine Tl.gd_on ?_ | refine Tl.gd3_on ?_) | ((with_reducible first | apply Tl.brC | apply Tl.gdC | apply Tl.gd3C); focus (simp (disch := omega) only [coreA, Int.reduceBEq, base_Wn] <;> with_reducible rfl)))
        rw [e]
        exact ih (by omega) (by omega) S1 hk
      · rw [if_neg (fun q => q1 q.2)] at hsn
        repeat (first | (with_reducible apply Tl.val; focus (simp (disch := omega) only [coreA, Int.reduceBEq, base_Wn, hpp, c5, hv, hp, hc] <;> with_reducible rfl)) | (with_reducible first | refine Tl.brT ?_ | refine Tl.brF ?_ | refine Tl.gd_on ?_ | refine Tl.gd3_on ?_) | ((with_reducible first | apply Tl.brC | apply Tl.gdC | apply Tl.gd3C); focus (simp (disch := omega) only [coreA, Int.reduceBEq, base_Wn, hpp, c5, hv, hp, hc] <;> with_reducible rfl)))
        refine Tl.push S 0 rfl app36 (bs36 _ _) rfl rfl (by omega) fun ov' h1 S1 => ?_
        rw [irows_snoc, ← hsn] at S1
        repeat (first | (with_reducible apply Tl.val; focus (simp (disch := omega) only [coreA, Int.reduceBEq, base_Wn] <;> with_reducible rfl)) | (with_reducible first | refine Tl.brT ?_ | refine Tl.brF ?_ | refine Tl.gd_on ?_ | refine Tl.gd3_on ?_) | ((with_reducible first | apply Tl.brC | apply Tl.gdC | apply Tl.gd3C); focus (simp (disch := omega) only [coreA, Int.reduceBEq, base_Wn] <;> with_reducible rfl)))
        rw [e]
        exact ih (by omega) (by omega) S1 hk
    · rw [if_neg (fun q => q0 q.1)] at hsn
      repeat (first | (with_reducible apply Tl.val; focus (simp (disch := omega) only [coreA, Int.reduceBEq, base_Wn, hpp, c5, hv, hp, hc] <;> with_reducible rfl)) | (with_reducible first | refine Tl.brT ?_ | refine Tl.brF ?_ | refine Tl.gd_on ?_ | refine Tl.gd3_on ?_) | ((with_reducible first | apply Tl.brC | apply Tl.gdC | apply Tl.gd3C); focus (simp (disch := omega) only [coreA, Int.reduceBEq, base_Wn, hpp, c5, hv, hp, hc] <;> with_reducible rfl)))
      refine Tl.push S 0 rfl app36 (bs36 _ _) rfl rfl (by omega) fun ov' h1 S1 => ?_
      rw [irows_snoc, ← hsn] at S1
      repeat (first | (with_reducible apply Tl.val; focus (simp (disch := omega) only [coreA, Int.reduceBEq, base_Wn] <;> with_reducible rfl)) | (with_reducible first | refine Tl.brT ?_ | refine Tl.brF ?_ | refine Tl.gd_on ?_ | refine Tl.gd3_on ?_) | ((with_reducible first | apply Tl.brC | apply Tl.gdC | apply Tl.gd3C); focus (simp (disch := omega) only [coreA, Int.reduceBEq, base_Wn] <;> with_reducible rfl)))
      rw [e]
      exact ih (by omega) (by omega) S1 hk
theorem f40c {k : Nat} {h : AH} {v : Value} {l : List NodeD} {i : Nat} {nd : NodeD} (PL : Preds h v l) (hi : l[i]? = some nd) (hi2 : i ≤ 2 ^ 40) (hl : nd.parts.length ≤ 1000) (hk : nd.parts.length < k) :
    Tl (eInv env (k + 1) (.func 40) #[] #[v, .int .i64 i] h) fun r => Stt Try.prog h.n h r.2 [] [(r.1, 1, irows (refParts i nd.parts))] := by
  rw [F40_call]
  unfold F40
  obtain ⟨b, o, pv, hp, hrow, N⟩ := PL.at_ hi
  exact f40_loop N hp (Ev.cell_of_row (j := 5) hrow (by omega)) hi2 hl nd.parts.length (m := 0) (by omega) hk ((Stt.init h).nil 1) fun h' ov' y1 y2 S => ⟨_, rfl, S⟩
def allB (bs : List Bool) (qs : List Int) : Bool := qs.all (lookB false bs)
def anyB (bs : List Bool) (qs : List Int) : Bool := qs.any (lookB false bs)
theorem f17_in {β : Type} {inv : Inv} {k : Nat} {Q : β → Prop} {h : AH} {x0 x1 ov x6 qv : Value} {bs : List Bool} {qs : List Int} (B : Bools h ov bs) (N : IntsZ h qv qs) (hq : ∀ x ∈ qs, x < bs.length) (hl : qs.length ≤ 1000)
    {ke2 : Value → Value → Value → Value → Value → Value → Value → Value → Value → AH → Option β} (n : Nat) :
    ∀ {m j : Nat}, m + n = qs.length → n < j → (∀ y10 y30, Tl (ke2 x0 x1 ov x6 qv (.bool (allB bs qs)) (.bool (anyB bs qs)) y10 y30 h) Q) →
      Tl (F17_lrlrrllrllrlrrr inv k j x0 x1 ov x6 qv (.bool (allB bs (qs.take m))) (.bool (anyB bs (qs.take m))) (.int .i64 m) h ke2) Q := by
  have hv : ∀ h', pLen Try.prog #[36] qv h' = some (.int .i64 qs.length) := fun h' => N.len
  induction n with
  | zero =>
    intro m j hm hj hk
    obtain ⟨j, rfl⟩ : ∃ q, j = q + 1 := ⟨j - 1, by omega⟩
    rw [List.take_of_length_le (by omega)]
    simp only [F17_lrlrrllrllrlrrr]
    repeat (first | (with_reducible apply Tl.val; focus (simp (disch := omega) only [coreA, Int.reduceBEq, base_Wn, hv] <;> with_reducible rfl)) | (with_reducible first | refine Tl.brT ?_ | refine Tl.brF ?_ | refine Tl.gd_on ?_ | refine Tl.gd3_on ?_) | ((with_reducible first | apply Tl.brC | apply Tl.gdC | apply Tl.gd3C); focus (simp (disch := omega) only [coreA, Int.reduceBEq, base_Wn, hv] <;> with_reducible rfl)))
    exact hk _ _
  | succ n ih =>
    intro m j hm hj hk
    obtain ⟨j, rfl⟩ : ∃ q, j = q + 1 := ⟨j - 1, by omega⟩
    obtain ⟨x, ex⟩ : ∃ x, qs[m]? = some x := ⟨_, List.getElem?_eq_getElem (by omega)⟩
    obtain ⟨b, o, hp, hc⟩ := N.at_ ex
    have hx := hq x (List.mem_of_getElem? ex)
    have e : (m : Int) + 1 = ((m + 1 : Nat) : Int) := by omega
    have ih := ih (m := m + 1) (j := j) (by omega) (by omega) hk
    have ha : allB bs (qs.take (m + 1)) = (allB bs (qs.take m) && lookB false bs x) := by unfold allB; rw [List.take_add_one, ex, List.all_append]; simp
    have hs : anyB bs (qs.take (m + 1)) = (anyB bs (qs.take m) || lookB false bs x) := by unfold anyB; rw [List.take_add_one, ex, List.any_append]; simp
    rw [ha, hs] at ih
    simp only [F17_lrlrrllrllrlrrr, G17_12]
    by_cases q0 : 0 ≤ x
    · obtain ⟨w, ew⟩ : ∃ w, bs[x.toNat]? = some w := ⟨_, List.getElem?_eq_getElem (by omega)⟩
      obtain ⟨b2, o2, hp2, hrow2⟩ := SlZ.at_ B (k := .i64) (i := x.toNat) (r := [.bool w]) (by simp [brows, ew]) u71 sz4
      have hc2 : h.cell b2 o2 = some (.bool w) := by simpa using Ev.cell_of_row (j := 0) hrow2 (by omega)
      rw [show ((x.toNat : Nat) : Int) = x by omega] at hp2
      have hw : lookB false bs x = w := by unfold lookB; rw [if_pos q0, ew]; rfl
      rw [hw] at ih
      cases q1 : allB bs (qs.take m) <;> cases q2 : anyB bs (qs.take m) <;> rw [q1, q2] at ih
      · repeat (first | (with_reducible apply Tl.val; focus (simp (disch := omega) only [coreA, Int.reduceBEq, base_Wn, hv, hp, hc, hp2, hc2] <;> with_reducible rfl)) | (with_reducible first | refine Tl.brT ?_ | refine Tl.brF ?_ | refine Tl.gd_on ?_ | refine Tl.gd3_on ?_) | ((with_reducible first | apply Tl.brC | apply Tl.gdC | apply Tl.gd3C); focus (simp (disch := omega) only [coreA, Int.reduceBEq, base_Wn, hv, hp, hc, hp2, hc2] <;> with_reducible rfl)))
        rw [e]
        exact ih
      · repeat (first | (with_reducible apply Tl.val; focus (simp (disch := omega) only [coreA, Int.reduceBEq, base_Wn, hv, hp, hc, hp2, hc2] <;> with_reducible rfl)) | (with_reducible first | refine Tl.brT ?_ | refine Tl.brF ?_ | refine Tl.gd_on ?_ | refine Tl.gd3_on ?_) | ((with_reducible first | apply Tl.brC | apply Tl.gdC | apply Tl.gd3C); focus (simp (disch := omega) only [coreA, Int.reduceBEq, base_Wn, hv, hp, hc, hp2, hc2] <;> with_reducible rfl)))
        rw [e]
        exact ih
      · repeat (first | (with_reducible apply Tl.val; focus (simp (disch := omega) only [coreA, Int.reduceBEq, base_Wn, hv, hp, hc, hp2, hc2] <;> with_reducible rfl)) | (with_reducible first | refine Tl.brT ?_ | refine Tl.brF ?_ | refine Tl.gd_on ?_ | refine Tl.gd3_on ?_) | ((with_reducible first | apply Tl.brC | apply Tl.gdC | apply Tl.gd3C); focus (simp (disch := omega) only [coreA, Int.reduceBEq, base_Wn, hv, hp, hc, hp2, hc2] <;> with_reducible rfl)))
        rw [e]
        exact ih
      · repeat (first | (with_reducible apply Tl.val; focus (simp (disch := omega) only [coreA, Int.reduceBEq, base_Wn, hv, hp, hc, hp2, hc2] <;> with_reducible rfl)) | (with_reducible first | refine Tl.brT ?_ | refine Tl.brF ?_ | refine Tl.gd_on ?_ | refine Tl.gd3_on ?_) | ((with_reducible first | apply Tl.brC | apply Tl.gdC | apply Tl.gd3C); focus (simp (disch := omega) only [coreA, Int.reduceBEq, base_Wn, hv, hp, hc, hp2, hc2] <;> with_reducible rfl)))
        rw [e]
        exact ih
    · have hw : lookB false bs x = false := by unfold lookB; rw [if_neg q0]
      rw [hw] at ih
      cases q1 : allB bs (qs.take m) <;> cases q2 : anyB bs (qs.take m) <;> rw [q1, q2] at ih
      · repeat (first | (with_reducible apply Tl.val; focus (simp (disch := omega) only [coreA, Int.reduceBEq, base_Wn, hv, hp, hc] <;> with_reducible rfl)) | (with_reducible first | refine Tl.brT ?_ | refine Tl.brF ?_ | refine Tl.gd_on ?_ | refine Tl.gd3_on ?_) | ((with_reducible first | apply Tl.brC | apply Tl.gdC | apply Tl.gd3C); focus (simp (disch := omega) only [coreA, Int.reduceBEq, base_Wn, hv, hp, hc] <;> with_reducible rfl)))
        rw [e]
        exact ih
      · repeat (first | (with_reducible apply Tl.val; focus (simp (disch := omega) only [coreA, Int.reduceBEq, base_Wn, hv, hp, hc] <;> with_reducible rfl)) | (with_reducible first | refine Tl.brT ?_ | refine Tl.brF ?_ | refine Tl.gd_on ?_ | refine Tl.gd3_on ?_) | ((with_reducible first | apply Tl.brC | apply Tl.gdC | apply Tl.gd3C); focus (simp (disch := omega) only [coreA, Int.reduceBEq, base_Wn, hv, hp, hc] <;> with_reducible rfl)))
        rw [e]
        exact ih
      · repeat (first | (with_reducible apply Tl.val; focus (simp (disch := omega) only [coreA, Int.reduceBEq, base_Wn, hv, hp, hc] <;> with_reducible rfl)) | (with_reducible first | refine Tl.brT ?_ | refine Tl.brF ?_ | refine Tl.gd_on ?_ | refine Tl.gd3_on ?_) | ((with_reducible first | apply Tl.brC | apply Tl.gdC | apply Tl.gd3C); focus (simp (disch := omega) only [coreA, Int.reduceBEq, base_Wn, hv, hp, hc] <;> with_reducible rfl)))
        rw [e]
        exact ih
      · repeat (first | (with_reducible apply Tl.val; focus (simp (disch := omega) only [coreA, Int.reduceBEq, base_Wn, hv, hp, hc] <;> with_reducible rfl)) | (with_reducible first | refine Tl.brT ?_ | refine Tl.brF ?_ | refine Tl.gd_on ?_ | refine Tl.gd3_on ?_) | ((with_reducible first | apply Tl.brC | apply Tl.gdC | apply Tl.gd3C); focus (simp (disch := omega) only [coreA, Int.reduceBEq, base_Wn, hv, hp, hc] <;> with_reducible rfl)))
        rw [e]
        exact ih
theorem f17_in0 {β : Type} {inv : Inv} {k j : Nat} {Q : β → Prop} {h : AH} {x0 x1 ov x6 qv : Value} {bs : List Bool} {qs : List Int} {a s : Bool} (B : Bools h ov bs) (N : IntsZ h qv qs) (hq : ∀ x ∈ qs, x < bs.length) (hl : qs.length ≤ 1000) (ha : allB bs qs = a) (hs : anyB bs qs = s)
    {ke2 : Value → Value → Value → Value → Value → Value → Value → Value → Value → AH → Option β} (hj : qs.length < j) (hk : ∀ y10 y30, Tl (ke2 x0 x1 ov x6 qv (.bool a) (.bool s) y10 y30 h) Q) :
    Tl (F17_lrlrrllrllrlrrr inv k j x0 x1 ov x6 qv (.bool true) (.bool false) (.int .i64 0) h ke2) Q := by
  subst ha; subst hs
  exact f17_in B N hq hl qs.length (m := 0) (by omega) hj hk
theorem set_same0 {α : Type} {l : List α} {i : Nat} {x : α} (h : l[i]? = some x) : l.set i x = l := by
  refine List.ext_getElem? fun j => ?_
  by_cases q : i = j
  · subst q; rw [List.getElem?_set_self (List.getElem?_eq_some_iff.1 h).1, h]
  · rw [List.getElem?_set_ne q]
theorem look_parts {outs : List Bool} {n i : Nat} (hi : outs.length = i) (ns : List Int) : (refParts i ns).map (lookB false (outs ++ List.replicate n false)) = ns.map (lookB false outs) := by
  unfold refParts
  rw [List.map_map]
  refine List.map_congr_left fun x _ => ?_
  show lookB false (outs ++ List.replicate n false) (if 0 ≤ x ∧ x < i then x else -1) = lookB false outs x
  by_cases q : 0 ≤ x
  · by_cases q1 : x < i
    · rw [if_pos (show 0 ≤ x ∧ x < (i : Int) from ⟨q, q1⟩)]
      unfold lookB
      rw [if_pos q, if_pos q, List.getElem?_append_left (by omega)]
    · rw [if_neg (show ¬ (0 ≤ x ∧ x < (i : Int)) from fun h => q1 h.2)]
      unfold lookB
      rw [if_neg (by omega), if_pos q, List.getElem?_eq_none (by omega)]
      rfl
  · rw [if_neg (show ¬ (0 ≤ x ∧ x < (i : Int)) from fun h => q h.1)]
    unfold lookB
    rw [if_neg (by omega), if_neg q]
theorem all_con (l : List Bool) : l.all id = !l.contains false := by
  induction l with
  | nil => rfl
  | cons a l ih => cases a <;> simp_all
theorem any_con (l : List Bool) : l.any id = l.contains true := by
  induction l with
  | nil => rfl
  | cons a l ih => cases a <;> simp_all
theorem f17_out {β : Type} {k : Nat} {Q : β → Prop} {h0 : AH} {v rv ov : Value} {l : List NodeD} {row : List CellD} (PL : Preds h0 v l) (R : Cells h0 rv row) (hl : l.length ≤ 900) (hps : ∀ nd ∈ l, nd.parts.length ≤ 900) (hr : row.length ≤ 2 ^ 62)
    {ke0 : Value → Value → Value → Value → Value → AH → Option β} (n : Nat) :
    ∀ {i j : Nat} {outs : List Bool} {h : AH}, i + n = l.length → n < j → outs.length = i → Stt Try.prog h0.n h0 h [] [(ov, 1, brows (outs ++ List.replicate n false))] →
      (∀ h' y1 y2, Stt Try.prog h0.n h0 h' [] [(ov, 1, brows (goneL false (tellB row) (l.drop i) outs))] → Tl (ke0 v rv ov y1 y2 h') Q) →
      Tl (F17_lrlrrr (eInv env (k + 1010)) (k + 1010) j v rv ov (.int .i64 i) h ke0) Q := by
  have hv : ∀ h', pLen Try.prog #[35] v h' = some (.int .i64 l.length) := fun h' => PL.len
  induction n with
  | zero =>
    intro i j outs h hi hj ho S hk
    obtain ⟨j, rfl⟩ : ∃ q, j = q + 1 := ⟨j - 1, by omega⟩
    rw [List.replicate_zero, List.append_nil] at S
    simp only [F17_lrlrrr]
    repeat (first | (with_reducible apply Tl.val; focus (simp (disch := omega) only [coreA, Int.reduceBEq, base_Wn, hv] <;> with_reducible rfl)) | (with_reducible first | refine Tl.brT ?_ | refine Tl.brF ?_ | refine Tl.gd_on ?_ | refine Tl.gd3_on ?_) | ((with_reducible first | apply Tl.brC | apply Tl.gdC | apply Tl.gd3C); focus (simp (disch := omega) only [coreA, Int.reduceBEq, base_Wn, hv] <;> with_reducible rfl)))
    rw [List.drop_eq_nil_of_le (by omega)] at hk
    exact hk _ _ _ S
  | succ n ih =>
    intro i j outs h hi hj ho S hk
    obtain ⟨j, rfl⟩ : ∃ q, j = q + 1 := ⟨j - 1, by omega⟩
    obtain ⟨nd, ex⟩ : ∃ x, l[i]? = some x := ⟨_, List.getElem?_eq_getElem (by omega)⟩
    obtain ⟨b, o, pv, hp, hrow, N⟩ := PL.at_ ex
    have hn1 := hps nd (List.mem_of_getElem? ex)
    have hrow1 := S.grow.row hrow
    obtain ⟨pa, pc, epv, _⟩ := SlZ.form N
    rw [irows_len] at epv
    subst epv
    have e : (i : Int) + 1 = ((i + 1 : Nat) : Int) := by omega
    rw [drop_at ex, goneL] at hk
    simp only [F17_lrlrrr, F17_lrllrlrrr]
    repeat (first | (with_reducible apply Tl.val; focus (simp (disch := omega) only [coreA, Int.reduceBEq, base_Wn, hv] <;> with_reducible rfl)) | (with_reducible first | refine Tl.brT ?_ | refine Tl.brF ?_ | refine Tl.gd_on ?_ | refine Tl.gd3_on ?_) | ((with_reducible first | apply Tl.brC | apply Tl.gdC | apply Tl.gd3C); focus (simp (disch := omega) only [coreA, Int.reduceBEq, base_Wn, hv] <;> with_reducible rfl)))
    refine Tl.bind (f40c (k := k + 1009) (PL.grow S.grow) ex (by omega) (by omega) (by omega)) ?_
    rintro ⟨qv, h1⟩ T1
    simp only at T1
    have S1 := S.join T1
    have S1 : Stt Try.prog h0.n h0 h1 [] [(qv, 1, irows (refParts i nd.parts)), (ov, 1, brows (outs ++ List.replicate (n + 1) false))] := S1
    repeat (first | (with_reducible apply Tl.val; focus (simp (disch := omega) only [coreA, Int.reduceBEq, base_Wn] <;> with_reducible rfl)) | (with_reducible first | refine Tl.brT ?_ | refine Tl.brF ?_ | refine Tl.gd_on ?_ | refine Tl.gd3_on ?_) | ((with_reducible first | apply Tl.brC | apply Tl.gdC | apply Tl.gd3C); focus (simp (disch := omega) only [coreA, Int.reduceBEq, base_Wn] <;> with_reducible rfl)))
    have hall : allB (outs ++ List.replicate (n + 1) false) (refParts i nd.parts) = !(nd.parts.map (lookB false outs)).contains false := by
      rw [← look_parts (n := n + 1) ho, ← all_con]; unfold allB; rw [List.all_map]; rfl
    have hany : anyB (outs ++ List.replicate (n + 1) false) (refParts i nd.parts) = (nd.parts.map (lookB false outs)).contains true := by
      rw [← look_parts (n := n + 1) ho, ← any_con]; unfold anyB; rw [List.any_map]; rfl
    refine f17_in0 (bs := outs ++ List.replicate (n + 1) false) (qs := refParts i nd.parts) (S1.slV 1 rfl).z (S1.slV 0 rfl).z (fun x hx => by
      unfold refParts at hx
      obtain ⟨y, _, rfl⟩ := List.mem_map.1 hx
      split <;> simp <;> omega) (by unfold refParts; simp; omega) hall hany (by unfold refParts; simp; omega) fun y10 y30 => ?_
    generalize hpsd : nd.parts.map (lookB false outs) = ps at hk
    -- what comes behind a store
    have c0 : h1.cell b o = some (.int .i64 nd.op) := by
      have := S1.grow.row hrow
      have h2 := Ev.cell_of_row (j := 0) this (by omega)
      rwa [Nat.add_zero] at h2
    have hrow2 := S1.grow.row hrow
    have hcm : ∀ h, eInv env (k + 1010) (.func 41) #[] #[.int .i64 nd.op] h = some (.bool (decide (2 ≤ nd.op ∧ nd.op ≤ 5)), h) := fun h => f41e (k := k + 1009) nd.op h
    have next : ∀ (h2 : AH) (w : Bool), w = tellB row nd ps → Stt Try.prog h0.n h0 h2 [] [(qv, 1, irows (refParts i nd.parts)), (ov, 1, (brows (outs ++ List.replicate (n + 1) false)).set i [.bool w])] →
        Tl (F17_lrlrrr (eInv env (k + 1010)) (k + 1010) j v rv ov (.int .i64 ((i + 1 : Nat) : Int)) h2 ke0) Q := by
      intro h2 w hw S2
      refine ih (outs := outs ++ [w]) (by omega) (by omega) (by simp; omega) ?_ (by rw [hw]; exact hk)
      have := S2.dropO
      have e5 : (brows (outs ++ List.replicate (n + 1) false)).set i [.bool w] = brows (outs ++ [w] ++ List.replicate n false) := by
        unfold brows
        rw [List.map_append, List.set_append, if_neg (by simp; omega)]
        simp [ho, List.replicate_succ]
      rwa [e5] at this
    have hget : ∀ h2, Stt Try.prog h0.n h0 h2 [] [(qv, 1, irows (refParts i nd.parts)), (ov, 1, brows (outs ++ List.replicate (n + 1) false))] → ∃ b4, blkOf ov = some b4 ∧ pIndexAddr Try.prog 71 ov (.int .i64 i) = some (.pointer (some ⟨b4, i * 1, none⟩)) := fun h2 S2 =>
      S2.idx 1 rfl (by simp [brows]; omega) u71 sz4
    have put : ∀ (h2 : AH) (w : Bool) (b4 : Nat) (K : Value × AH → Option β), Stt Try.prog h0.n h0 h2 [] [(qv, 1, irows (refParts i nd.parts)), (ov, 1, brows (outs ++ List.replicate (n + 1) false))] → blkOf ov = some b4 → w = tellB row nd ps →
        (∀ h3, Tl (F17_lrlrrr (eInv env (k + 1010)) (k + 1010) j v rv ov (.int .i64 ((i + 1 : Nat) : Int)) h3 ke0) Q → Tl (K (unk, h3)) Q) → Tl (bnd (kSt (pStore Try.prog 4 (.pointer (some ⟨b4, i * 1, none⟩)) (.bool w) h2)) K) Q := by
      intro h2 w b4 K S2 hb hw hK
      exact Tl.setAt S2 1 rfl hb (by simp [brows]; omega) rfl sz4 rfl fun h3 S3 => hK h3 (next h3 w hw S3)
    unfold tellB at put next
    by_cases q25 : 2 ≤ nd.op ∧ nd.op ≤ 5
    · rw [if_pos q25] at put
      rw [decide_eq_true q25] at hcm
      repeat (first | (with_reducible apply Tl.val; focus (simp (disch := omega) only [coreA, Int.reduceBEq, base_Wn, hp, c0, hcm, hrow2] <;> with_reducible rfl)) | (with_reducible first | refine Tl.brT ?_ | refine Tl.brF ?_ | refine Tl.gd_on ?_ | refine Tl.gd3_on ?_) | ((with_reducible first | apply Tl.brC | apply Tl.gdC | apply Tl.gd3C); focus (simp (disch := omega) only [coreA, Int.reduceBEq, base_Wn, hp, c0, hcm, hrow2] <;> with_reducible rfl)))
      refine Tl.call' S1 (f42c (k := k + 990) nd q25 (R.grow S1.grow) hr) fun h2 S2 g2 => ?_
      obtain ⟨b4, hb4, hx4⟩ := hget h2 S2
      repeat (first | (with_reducible apply Tl.val; focus (simp (disch := omega) only [coreA, Int.reduceBEq, base_Wn, hx4] <;> with_reducible rfl)) | (with_reducible first | refine Tl.brT ?_ | refine Tl.brF ?_ | refine Tl.gd_on ?_ | refine Tl.gd3_on ?_) | ((with_reducible first | apply Tl.brC | apply Tl.gdC | apply Tl.gd3C); focus (simp (disch := omega) only [coreA, Int.reduceBEq, base_Wn, hx4] <;> with_reducible rfl)))
      refine put h2 _ b4 _ S2 hb4 rfl fun h3 T => ?_
      repeat (first | (with_reducible apply Tl.val; focus (simp (disch := omega) only [coreA, Int.reduceBEq, base_Wn] <;> with_reducible rfl)) | (with_reducible first | refine Tl.brT ?_ | refine Tl.brF ?_ | refine Tl.gd_on ?_ | refine Tl.gd3_on ?_) | ((with_reducible first | apply Tl.brC | apply Tl.gdC | apply Tl.gd3C); focus (simp (disch := omega) only [coreA, Int.reduceBEq, base_Wn] <;> with_reducible rfl)))
      rw [e]
      exact T
    · rw [if_neg q25] at put next
      rw [decide_eq_false q25] at hcm
      obtain ⟨b4, hb4, hx4⟩ := hget h1 S1
      by_cases q1 : nd.op = 1
      · rw [if_pos q1] at put
        repeat (first | (with_reducible apply Tl.val; focus (simp (disch := omega) only [coreA, Int.reduceBEq, base_Wn, hp, c0, hcm, hx4] <;> with_reducible rfl)) | (with_reducible first | refine Tl.brT ?_ | refine Tl.brF ?_ | refine Tl.gd_on ?_ | refine Tl.gd3_on ?_) | ((with_reducible first | apply Tl.brC | apply Tl.gdC | apply Tl.gd3C); focus (simp (disch := omega) only [coreA, Int.reduceBEq, base_Wn, hp, c0, hcm, hx4] <;> with_reducible rfl)))
        refine put h1 _ b4 _ S1 hb4 rfl fun h3 T => ?_
        repeat (first | (with_reducible apply Tl.val; focus (simp (disch := omega) only [coreA, Int.reduceBEq, base_Wn] <;> with_reducible rfl)) | (with_reducible first | refine Tl.brT ?_ | refine Tl.brF ?_ | refine Tl.gd_on ?_ | refine Tl.gd3_on ?_) | ((with_reducible first | apply Tl.brC | apply Tl.gdC | apply Tl.gd3C); focus (simp (disch := omega) only [coreA, Int.reduceBEq, base_Wn] <;> with_reducible rfl)))
        rw [e]
        exact T
      · rw [if_neg q1] at put next
        by_cases q6 : nd.op = 6
        · rw [if_pos q6] at put
          repeat (first | (with_reducible apply Tl.val; focus (simp (disch := omega) only [coreA, Int.reduceBEq, base_Wn, hp, c0, hcm, hx4] <;> with_reducible rfl)) | (with_reducible first | refine Tl.brT ?_ | refine Tl.brF ?_ | refine Tl.gd_on ?_ | refine Tl.gd3_on ?_) | ((with_reducible first | apply Tl.brC | apply Tl.gdC | apply Tl.gd3C); focus (simp (disch := omega) only [coreA, Int.reduceBEq, base_Wn, hp, c0, hcm, hx4] <;> with_reducible rfl)))
          refine put h1 _ b4 _ S1 hb4 rfl fun h3 T => ?_
          repeat (first | (with_reducible apply Tl.val; focus (simp (disch := omega) only [coreA, Int.reduceBEq, base_Wn] <;> with_reducible rfl)) | (with_reducible first | refine Tl.brT ?_ | refine Tl.brF ?_ | refine Tl.gd_on ?_ | refine Tl.gd3_on ?_) | ((with_reducible first | apply Tl.brC | apply Tl.gdC | apply Tl.gd3C); focus (simp (disch := omega) only [coreA, Int.reduceBEq, base_Wn] <;> with_reducible rfl)))
          rw [e]
          exact T
        · rw [if_neg q6] at put next
          by_cases q7 : nd.op = 7
          · rw [if_pos q7] at put
            repeat (first | (with_reducible apply Tl.val; focus (simp (disch := omega) only [coreA, Int.reduceBEq, base_Wn, hp, c0, hcm, hx4] <;> with_reducible rfl)) | (with_reducible first | refine Tl.brT ?_ | refine Tl.brF ?_ | refine Tl.gd_on ?_ | refine Tl.gd3_on ?_) | ((with_reducible first | apply Tl.brC | apply Tl.gdC | apply Tl.gd3C); focus (simp (disch := omega) only [coreA, Int.reduceBEq, base_Wn, hp, c0, hcm, hx4] <;> with_reducible rfl)))
            refine put h1 _ b4 _ S1 hb4 rfl fun h3 T => ?_
            repeat (first | (with_reducible apply Tl.val; focus (simp (disch := omega) only [coreA, Int.reduceBEq, base_Wn] <;> with_reducible rfl)) | (with_reducible first | refine Tl.brT ?_ | refine Tl.brF ?_ | refine Tl.gd_on ?_ | refine Tl.gd3_on ?_) | ((with_reducible first | apply Tl.brC | apply Tl.gdC | apply Tl.gd3C); focus (simp (disch := omega) only [coreA, Int.reduceBEq, base_Wn] <;> with_reducible rfl)))
            rw [e]
            exact T
          · rw [if_neg q7] at put next
            by_cases q8 : nd.op = 8
            · rw [if_pos q8] at put
              repeat (first | (with_reducible apply Tl.val; focus (simp (disch := omega) only [coreA, Int.reduceBEq, base_Wn, hp, c0, hcm, hx4, Bool.not_not] <;> with_reducible rfl)) | (with_reducible first | refine Tl.brT ?_ | refine Tl.brF ?_ | refine Tl.gd_on ?_ | refine Tl.gd3_on ?_) | ((with_reducible first | apply Tl.brC | apply Tl.gdC | apply Tl.gd3C); focus (simp (disch := omega) only [coreA, Int.reduceBEq, base_Wn, hp, c0, hcm, hx4, Bool.not_not] <;> with_reducible rfl)))
              refine put h1 _ b4 _ S1 hb4 rfl fun h3 T => ?_
              repeat (first | (with_reducible apply Tl.val; focus (simp (disch := omega) only [coreA, Int.reduceBEq, base_Wn] <;> with_reducible rfl)) | (with_reducible first | refine Tl.brT ?_ | refine Tl.brF ?_ | refine Tl.gd_on ?_ | refine Tl.gd3_on ?_) | ((with_reducible first | apply Tl.brC | apply Tl.gdC | apply Tl.gd3C); focus (simp (disch := omega) only [coreA, Int.reduceBEq, base_Wn] <;> with_reducible rfl)))
              rw [e]
              exact T
            · rw [if_neg q8] at next
              repeat (first | (with_reducible apply Tl.val; focus (simp (disch := omega) only [coreA, Int.reduceBEq, base_Wn, hp, c0, hcm, hx4] <;> with_reducible rfl)) | (with_reducible first | refine Tl.brT ?_ | refine Tl.brF ?_ | refine Tl.gd_on ?_ | refine Tl.gd3_on ?_) | ((with_reducible first | apply Tl.brC | apply Tl.gdC | apply Tl.gd3C); focus (simp (disch := omega) only [coreA, Int.reduceBEq, base_Wn, hp, c0, hcm, hx4] <;> with_reducible rfl)))
              rw [e]
              refine next h1 false rfl ?_
              have : (brows (outs ++ List.replicate (n + 1) false)).set i [.bool false] = brows (outs ++ List.replicate (n + 1) false) := by
                refine set_same0 ?_
                unfold brows
                rw [List.getElem?_map, List.getElem?_append_right (by omega), ho, Nat.sub_self]
                rfl
              rw [this]
              exact S1
theorem f17c {k : Nat} {h : AH} {v rv : Value} {l : List NodeD} {row : List CellD} (PL : Preds h v l) (R : Cells h rv row) (hl : l.length ≤ 900) (hps : ∀ nd ∈ l, nd.parts.length ≤ 900) (hr : row.length ≤ 2 ^ 62) :
    Tl (eInv env (k + 1011) (.func 17) #[] #[v, rv] h) fun r => r.1 = .bool (holdsB row l) ∧ Grow h r.2 := by
  rw [F17_call]
  unfold F17 holdsB
  have hv : ∀ h', pLen Try.prog #[35] v h' = some (.int .i64 l.length) := fun h' => PL.len
  by_cases q : l = []
  · rw [if_pos q]
    subst q
    repeat (first | (with_reducible apply Tl.val; focus (simp (disch := omega) only [coreA, Int.reduceBEq, base_Wn, hv] <;> with_reducible rfl)) | (with_reducible first | refine Tl.brT ?_ | refine Tl.brF ?_ | refine Tl.gd_on ?_ | refine Tl.gd3_on ?_) | ((with_reducible first | apply Tl.brC | apply Tl.gdC | apply Tl.gd3C); focus (simp (disch := omega) only [coreA, Int.reduceBEq, base_Wn, hv] <;> with_reducible rfl)))
    exact ⟨_, rfl, rfl, Grow.refl _⟩
  · rw [if_neg q]
    have hne : 0 < l.length := List.length_pos_iff.2 q
    repeat (first | (with_reducible apply Tl.val; focus (simp (disch := omega) only [coreA, Int.reduceBEq, base_Wn, hv] <;> with_reducible rfl)) | (with_reducible first | refine Tl.brT ?_ | refine Tl.brF ?_ | refine Tl.gd_on ?_ | refine Tl.gd3_on ?_) | ((with_reducible first | apply Tl.brC | apply Tl.gdC | apply Tl.gd3C); focus (simp (disch := omega) only [coreA, Int.reduceBEq, base_Wn, hv] <;> with_reducible rfl)))
    refine Tl.make' (Stt.init h) app71 ze4 (by omega) (by omega) fun ov h1 S1 _ => ?_
    have e1 : List.replicate l.length (Value.bool false).cells.toList = brows ([] ++ List.replicate l.length false) := by simp [brows, Value.cells]
    rw [e1] at S1
    repeat (first | (with_reducible apply Tl.val; focus (simp (disch := omega) only [coreA, Int.reduceBEq, base_Wn] <;> with_reducible rfl)) | (with_reducible first | refine Tl.brT ?_ | refine Tl.brF ?_ | refine Tl.gd_on ?_ | refine Tl.gd3_on ?_) | ((with_reducible first | apply Tl.brC | apply Tl.gdC | apply Tl.gd3C); focus (simp (disch := omega) only [coreA, Int.reduceBEq, base_Wn] <;> with_reducible rfl)))
    refine f17_out PL R hl hps hr l.length (i := 0) (outs := []) (by omega) (by omega) rfl S1 fun h2 y1 y2 S2 => ?_
    rw [List.drop_zero] at S2
    have hgl : (goneL false (tellB row) l []).length = l.length := by rw [goneL_len]; simp
    obtain ⟨w, ew⟩ : ∃ w, (goneL false (tellB row) l [])[l.length - 1]? = some w := ⟨_, List.getElem?_eq_getElem (by omega)⟩
    obtain ⟨b2, o2, hp2, hrow2⟩ := (S2.slV 0 rfl).z.at_ (k := .i64) (i := l.length - 1) (r := [.bool w]) (by simp [brows, ew]) u71 sz4
    have hc2 : h2.cell b2 o2 = some (.bool w) := by simpa using Ev.cell_of_row (j := 0) hrow2 (by omega)
    rw [show ((l.length - 1 : Nat) : Int) = (l.length : Int) - 1 by omega] at hp2
    repeat (first | (with_reducible apply Tl.val; focus (simp (disch := omega) only [coreA, Int.reduceBEq, base_Wn, hv, hp2, hc2] <;> with_reducible rfl)) | (with_reducible first | refine Tl.brT ?_ | refine Tl.brF ?_ | refine Tl.gd_on ?_ | refine Tl.gd3_on ?_) | ((with_reducible first | apply Tl.brC | apply Tl.gdC | apply Tl.gd3C); focus (simp (disch := omega) only [coreA, Int.reduceBEq, base_Wn, hv, hp2, hc2] <;> with_reducible rfl)))
    refine ⟨_, rfl, ?_, S2.grow⟩
    rw [List.getLast?_eq_getElem?, hgl, ew]
    rfl
end Go.Proofs.Ytjmfokglckaneaa.Sh
