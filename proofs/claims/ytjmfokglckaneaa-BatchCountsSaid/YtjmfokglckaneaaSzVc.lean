/- What 'pred.leaf' and the function that 'Holds' hands on come to. -/
import Derived.Test.YtjmfokglckaneaaSzVb
set_option linter.unusedVariables false
set_option linter.unusedSimpArgs false
set_option maxRecDepth 100000
namespace Go.Proofs.Ytjmfokglckaneaa.Sh
open Go Go.RowKit Go.Proofs.Ev
theorem base_Vc : type_of% (And.intro @ld3 (And.intro @ld2 (And.intro @ld4 (And.intro @ld9 (And.intro @ld36 (And.intro @ld45 (And.intro @ld59 (And.intro @ld37 (And.intro @fa45_0 (And.intro @fa45_1 (And.intro @fa45_2 (And.intro @fa59_0 (And.intro @fa59_1 (And.intro @fa59_2 (And.intro @fa59_3 (@Nat.add_zero)))))))))))))))) := And.intro @ld3 (And.intro @ld2 (And.intro @ld4 (And.intro @ld9 (And.intro @ld36 (And.intro @ld45 (And.intro @ld59 (And.intro @ld37 (And.intro @fa45_0 (And.intro @fa45_1 (And.intro @fa45_2 (And.intro @fa59_0 (And.intro @fa59_1 (And.intro @fa59_2 (And.intro @fa59_3 (@Nat.add_zero)))))))))))))))
def ptr (b : Nat) : Value := .pointer (some ⟨b, 0, none⟩)
def brows (l : List Bool) : List (List Value) := l.map fun x => [.bool x]
theorem brows_len (l : List Bool) : (brows l).length = l.length := List.length_map ..
def Bools (h : AH) (v : Value) (l : List Bool) : Prop := SlZ Try.prog h v 1 (brows l)
theorem Bools.grow {h h' : AH} {v : Value} {l : List Bool} (S : Bools h v l) (g : Grow h h') : Bools h' v l := SlZ.grow S g
theorem Bools.len {h h' : AH} {v : Value} {l : List Bool} (S : Bools h v l) : pLen Try.prog #[71] v h' = some (.int .i64 l.length) := by
  have := SlZ.len S u71 (h' := h')
  rwa [brows_len] at this
theorem Bools.at_ {h : AH} {v : Value} {l : List Bool} (S : Bools h v l) {i : Nat} {x : Bool} (hi : l[i]? = some x) :
    ∃ b o, pIndexAddr Try.prog 71 v (.int .i64 i) = some (.pointer (some ⟨b, o, none⟩)) ∧ h.cell b o = some (.bool x) := by
  obtain ⟨b, o, h1, h2⟩ := SlZ.at_ S (k := .i64) (i := i) (r := [.bool x]) (by simp [brows, hi]) u71 sz4
  exact ⟨b, o, h1, by simpa using Ev.cell_of_row (j := 0) h2 (by omega)⟩
/-! ### 'slices.Contains' -/
theorem f79_loop {β : Type} {inv : Inv} {k : Nat} {Q : β → Prop} {h : AH} {v : Value} {l : List Bool} {w : Bool} (S : Bools h v l) (hl : l.length ≤ 2 ^ 30) {ke0 : Value → Value → Value → Value → Value → AH → Option β} {kr : Value → AH → Option β} (n : Nat) :
    ∀ {i j : Nat}, i + n = l.length → n < j → ((l.drop i).contains w = false → ∀ y1 y2 y3 y4 y5, Tl (ke0 y1 y2 y3 y4 y5 h) Q) → ((l.drop i).contains w = true → ∀ m : Nat, m < l.length → Tl (kr (.int .i64 (m : Nat)) h) Q) →
      Tl (F79_lrlr inv k j v (.bool w) (.int .i64 l.length) (.int .i64 i) h ke0 kr) Q := by
  induction n with
  | zero =>
    intro i j hi hj hk hr
    obtain ⟨j, rfl⟩ : ∃ q, j = q + 1 := ⟨j - 1, by omega⟩
    simp only [F79_lrlr]
    repeat (first | (with_reducible apply Tl.val; focus (simp (disch := omega) only [coreA, Int.reduceBEq, base_Vc] <;> with_reducible rfl)) | (with_reducible first | refine Tl.brT ?_ | refine Tl.brF ?_ | refine Tl.gd_on ?_ | refine Tl.gd3_on ?_) | ((with_reducible first | apply Tl.brC | apply Tl.gdC | apply Tl.gd3C); focus (simp (disch := omega) only [coreA, Int.reduceBEq, base_Vc] <;> with_reducible rfl)))
    exact hk (by rw [List.drop_eq_nil_of_le (by omega)]; rfl) _ _ _ _ _
  | succ n ih =>
    intro i j hi hj hk hr
    obtain ⟨j, rfl⟩ : ∃ q, j = q + 1 := ⟨j - 1, by omega⟩
    obtain ⟨x, ex⟩ : ∃ x, l[i]? = some x := ⟨_, List.getElem?_eq_getElem (by omega)⟩
    obtain ⟨b, o, hp, hc⟩ := S.at_ ex
    have e : (i : Int) + 1 = ((i + 1 : Nat) : Int) := by omega
    have hq : pBin Try.prog .eql 4 (.tmp 11) (.tmp 15) (.bool w) (.bool x) = some (.bool (w == x)) := bin_eql_bool u4
    rw [drop_at ex, List.contains_cons] at hk hr
    simp only [F79_lrlr]
    by_cases q : w = x
    · subst q
      rw [beq_self_eq_true, Bool.true_or] at hr
      repeat (first | (with_reducible apply Tl.val; focus (simp (disch := omega) only [coreA, Int.reduceBEq, base_Vc, hp, hc, hq] <;> with_reducible rfl)) | (with_reducible first | refine Tl.brT ?_ | refine Tl.brF ?_ | refine Tl.gd_on ?_ | refine Tl.gd3_on ?_) | ((with_reducible first | apply Tl.brC | apply Tl.gdC | apply Tl.gd3C); focus (simp (disch := omega) only [coreA, Int.reduceBEq, base_Vc, hp, hc, hq] <;> with_reducible rfl)))
      exact hr rfl i (by omega)
    · have en : (w == x) = false := by simpa using q
      rw [en, Bool.false_or] at hk hr
      rw [en] at hq
      repeat (first | (with_reducible apply Tl.val; focus (simp (disch := omega) only [coreA, Int.reduceBEq, base_Vc, hp, hc, hq] <;> with_reducible rfl)) | (with_reducible first | refine Tl.brT ?_ | refine Tl.brF ?_ | refine Tl.gd_on ?_ | refine Tl.gd3_on ?_) | ((with_reducible first | apply Tl.brC | apply Tl.gdC | apply Tl.gd3C); focus (simp (disch := omega) only [coreA, Int.reduceBEq, base_Vc, hp, hc, hq] <;> with_reducible rfl)))
      rw [e]
      exact ih (by omega) (by omega) hk hr
theorem f65e {k : Nat} {h : AH} {v : Value} {l : List Bool} (S : Bools h v l) (w : Bool) (hl : l.length < k) (hl2 : l.length ≤ 2 ^ 30) : eInv env (k + 2) (.func 65) #[] #[v, .bool w] h = some (.bool (l.contains w), h) := by
  rw [F65_call]
  unfold F65
  have hv : ∀ h', pLen Try.prog #[71] v h' = some (.int .i64 l.length) := fun h' => S.len
  have T : Tl (F79 (eInv env k) k v (.bool w) h) fun r => r.2 = h ∧ ∃ z : Int, r.1 = .int .i64 z ∧ (decide (z ≥ 0)) = l.contains w := by
    unfold F79
    repeat (first | (with_reducible apply Tl.val; focus (simp (disch := omega) only [coreA, Int.reduceBEq, base_Vc, hv] <;> with_reducible rfl)) | (with_reducible first | refine Tl.brT ?_ | refine Tl.brF ?_ | refine Tl.gd_on ?_ | refine Tl.gd3_on ?_) | ((with_reducible first | apply Tl.brC | apply Tl.gdC | apply Tl.gd3C); focus (simp (disch := omega) only [coreA, Int.reduceBEq, base_Vc, hv] <;> with_reducible rfl)))
    refine f79_loop S hl2 l.length (i := 0) (by omega) hl (fun q y1 y2 y3 y4 y5 => ?_) fun q m hm => ?_
    · exact ⟨_, rfl, rfl, _, rfl, by rw [List.drop_zero] at q; rw [q]; rfl⟩
    · exact ⟨_, rfl, rfl, _, rfl, by rw [List.drop_zero] at q; rw [q]; simp⟩
  obtain ⟨⟨r1, r2⟩, h1, h2, z, h3, h4⟩ := T
  simp only at h2 h3
  subst h2 h3
  rw [F79_call, h1]
  simp only [bnd_some, bin_geq, h4]
/-! ### 'leaf' -/
theorem f63e {k : Nat} (op : Int) (h : AH) : eInv env (k + 1) (.func 63) #[] #[.int .i64 op] h = some (.bool (decide (2 ≤ op) && decide (op ≤ 5)), h) := by
  rw [F63_call]
  have T : Tl (F63 (eInv env k) k (.int .i64 op) h) fun r => r = (.bool (decide (2 ≤ op) && decide (op ≤ 5)), h) := by
    unfold F63
    by_cases q1 : 2 ≤ op
    · by_cases q2 : op ≤ 5
      · repeat (first | (with_reducible apply Tl.val; focus (simp (disch := omega) only [coreA, Int.reduceBEq, base_Vc] <;> with_reducible rfl)) | (with_reducible first | refine Tl.brT ?_ | refine Tl.brF ?_ | refine Tl.gd_on ?_ | refine Tl.gd3_on ?_) | ((with_reducible first | apply Tl.brC | apply Tl.gdC | apply Tl.gd3C); focus (simp (disch := omega) only [coreA, Int.reduceBEq, base_Vc] <;> with_reducible rfl)))
        exact ⟨_, rfl, by simp [q1, q2]⟩
      · repeat (first | (with_reducible apply Tl.val; focus (simp (disch := omega) only [coreA, Int.reduceBEq, base_Vc] <;> with_reducible rfl)) | (with_reducible first | refine Tl.brT ?_ | refine Tl.brF ?_ | refine Tl.gd_on ?_ | refine Tl.gd3_on ?_) | ((with_reducible first | apply Tl.brC | apply Tl.gdC | apply Tl.gd3C); focus (simp (disch := omega) only [coreA, Int.reduceBEq, base_Vc] <;> with_reducible rfl)))
        exact ⟨_, rfl, by simp [q1, q2]⟩
    · repeat (first | (with_reducible apply Tl.val; focus (simp (disch := omega) only [coreA, Int.reduceBEq, base_Vc] <;> with_reducible rfl)) | (with_reducible first | refine Tl.brT ?_ | refine Tl.brF ?_ | refine Tl.gd_on ?_ | refine Tl.gd3_on ?_) | ((with_reducible first | apply Tl.brC | apply Tl.gdC | apply Tl.gd3C); focus (simp (disch := omega) only [coreA, Int.reduceBEq, base_Vc] <;> with_reducible rfl)))
      exact ⟨_, rfl, by simp [q1]⟩
  obtain ⟨r, h1, h2⟩ := T
  rw [h1, h2]
theorem omapT : mapT Try.prog 101 = some (3, 73) := by kernel_rfl
def ordf (i : Nat) : Value := .func (.func i) #[] #[]
def omapE : List MapEntry := [{ key := .int .i64 2, val := ordf 87, born := 0 }, { key := .int .i64 3, val := ordf 88, born := 1 }, { key := .int .i64 4, val := ordf 89, born := 2 }]
theorem f78c {k : Nat} (h : AH) : Tl (eInv env (k + 1) (.func 78) #[] #[] h) fun r => ∃ m, r.1 = .map (some m) ∧ Stt Try.prog h.n h r.2 [(m, .map omapE 3)] [] := by
  rw [F78_call]
  unfold F78
  refine Tl.mkmap (Stt.init h) omapT fun m h1 S1 _ => ?_
  refine Tl.upd S1 0 rfl omapT u3 rfl rfl rfl fun h2 S2 => ?_
  refine Tl.upd S2 0 rfl omapT u3 rfl rfl (by rfl) fun h3 S3 => ?_
  refine Tl.upd S3 0 rfl omapT u3 rfl rfl (by rfl) fun h4 S4 => ?_
  exact ⟨_, rfl, m, rfl, S4⟩
def ordB (op c : Int) : Bool := if op = 2 then c == 0 else if op = 3 then decide (c < 0) else decide (c > 0)
/-- What a node with a column tells of a row. -/
def leafB (nd : NodeD) (row : List CellD) : Bool :=
  if 0 ≤ nd.col then
    match row[nd.col.toNat]? with
    | some v => if nd.op = 5 then v.k == 0 else v.k != 0 && ordB nd.op (v.cmp nd.val)
    | none => false
  else false
theorem ordf_call {k : Nat} (op c : Int) (ho : 2 ≤ op ∧ op ≤ 4) : ∃ f j, findE (.int .i64) (.int .i64 op) omapE 0 = some (some (j, ordf f)) ∧ ∀ h, callV (eInv env (k + 1)) (ordf f) #[.int .i64 c] h = some (.bool (ordB op c), h) := by
  have h3 : op = 2 ∨ op = 3 ∨ op = 4 := by omega
  rcases h3 with rfl | rfl | rfl
  · refine ⟨87, 0, rfl, fun h => ?_⟩
    unfold ordf
    rw [callV_fn1, F87_call]
    unfold F87 ordB
    simp only [bin_eql, bnd_some]
    rfl
  · refine ⟨88, 1, rfl, fun h => ?_⟩
    unfold ordf
    rw [callV_fn1, F88_call]
    unfold F88 ordB
    simp only [bin_lss, bnd_some]
    rfl
  · refine ⟨89, 2, rfl, fun h => ?_⟩
    unfold ordf
    rw [callV_fn1, F89_call]
    unfold F89 ordB
    simp only [bin_gtr, bnd_some]
    rfl
def nval (nd : NodeD) (pv : Value) : Value := .agg #[.int .i64 nd.op, .int .i64 nd.col, .int .i64 nd.val.k, .int .i64 nd.val.i, .string nd.val.s, pv]
theorem same_cell (c : CellD) : sameV (.agg (crow c).toArray) (.agg (crow c).toArray) = true := by
  have : (c.s == c.s) = true := sameV_string (s := c.s)
  simp [sameV, sameList, same0, crow, this]
theorem f64c {k : Nat} (nd : NodeD) (ho : 2 ≤ nd.op ∧ nd.op ≤ 5) {h : AH} {a : Option Addr} {m c : Nat} {rv : Value} {row : List CellD} (R : Cells h rv row) (hl : row.length ≤ 2 ^ 62) :
    Tl (eInv env (k + 20) (.func 64) #[] #[nval nd (.slice a m c), rv] h) fun r => r.1 = .bool (leafB nd row) ∧ Grow h r.2 := by
  rw [F64_call]
  unfold F64
  refine Tl.box' (Stt.init h) rfl (by rw [sz59]; rfl) fun b1 h1 S1 g1 => ?_
  have c1 := S1.cell (o := 1) (v := .int .i64 nd.col) 0 rfl rfl
  have c0 := S1.cell (o := 0) (v := .int .i64 nd.op) 0 rfl rfl
  have hv : ∀ h', pLen Try.prog #[37] rv h' = some (.int .i64 row.length) := fun h' => R.len
  unfold leafB
  by_cases q0 : 0 ≤ nd.col
  · rw [if_pos q0]
    by_cases q1 : nd.col < row.length
    · obtain ⟨x, ex⟩ : ∃ x, row[nd.col.toNat]? = some x := ⟨_, List.getElem?_eq_getElem (by omega)⟩
      obtain ⟨b, o, hp, hrow⟩ := R.at_ ex
      rw [show ((nd.col.toNat : Nat) : Int) = nd.col by omega] at hp
      have hrow1 := g1.row hrow
      rw [ex]
      simp only
      repeat (first | (with_reducible apply Tl.val; focus (simp (disch := omega) only [coreA, Int.reduceBEq, base_Vc, c1, c0, hv, hp, hrow1] <;> with_reducible rfl)) | (with_reducible first | refine Tl.brT ?_ | refine Tl.brF ?_ | refine Tl.gd_on ?_ | refine Tl.gd3_on ?_) | ((with_reducible first | apply Tl.brC | apply Tl.gdC | apply Tl.gd3C); focus (simp (disch := omega) only [coreA, Int.reduceBEq, base_Vc, c1, c0, hv, hp, hrow1] <;> with_reducible rfl)))
      refine Tl.alloc' S1 ze45 (by rfl) fun b2 h2 S2 g2 => ?_
      refine Tl.store' S2 0 rfl sz45 rfl rfl (by simp [Value.cells]) fun h3 S3 k3 => ?_
      have c0 := S3.cell (o := 0) (v := .int .i64 nd.op) 1 rfl rfl
      have d0 := S3.cell (o := 0) (v := .int .i64 x.k) 0 rfl rfl
      by_cases q5 : nd.op = 5
      · rw [if_pos q5]
        repeat (first | (with_reducible apply Tl.val; focus (simp (disch := omega) only [coreA, Int.reduceBEq, base_Vc, c0, d0] <;> with_reducible rfl)) | (with_reducible first | refine Tl.brT ?_ | refine Tl.brF ?_ | refine Tl.gd_on ?_ | refine Tl.gd3_on ?_) | ((with_reducible first | apply Tl.brC | apply Tl.gdC | apply Tl.gd3C); focus (simp (disch := omega) only [coreA, Int.reduceBEq, base_Vc, c0, d0] <;> with_reducible rfl)))
        exact ⟨_, rfl, rfl, S3.grow⟩
      · rw [if_neg q5]
        have e5 : (nd.op == 5) = false := beq_f q5
        by_cases qn : x.k = 0
        · have en : (x.k == 0) = true := beq_t qn
          rw [show (x.k != 0) = false by simp [qn], Bool.false_and]
          repeat (first | (with_reducible apply Tl.val; focus (simp (disch := omega) only [coreA, Int.reduceBEq, base_Vc, c0, d0, e5, en] <;> with_reducible rfl)) | (with_reducible first | refine Tl.brT ?_ | refine Tl.brF ?_ | refine Tl.gd_on ?_ | refine Tl.gd3_on ?_) | ((with_reducible first | apply Tl.brC | apply Tl.gdC | apply Tl.gd3C); focus (simp (disch := omega) only [coreA, Int.reduceBEq, base_Vc, c0, d0, e5, en] <;> with_reducible rfl)))
          exact ⟨_, rfl, rfl, S3.grow⟩
        · have en : (x.k == 0) = false := beq_f qn
          rw [show (x.k != 0) = true by simp [qn], Bool.true_and]
          repeat (first | (with_reducible apply Tl.val; focus (simp (disch := omega) only [coreA, Int.reduceBEq, base_Vc, c0, d0, e5, en] <;> with_reducible rfl)) | (with_reducible first | refine Tl.brT ?_ | refine Tl.brF ?_ | refine Tl.gd_on ?_ | refine Tl.gd3_on ?_) | ((with_reducible first | apply Tl.brC | apply Tl.gdC | apply Tl.gd3C); focus (simp (disch := omega) only [coreA, Int.reduceBEq, base_Vc, c0, d0, e5, en] <;> with_reducible rfl)))
          have r2 : h3.row b2 0 3 = some (crow x) := S3.row 0 (n := 3) rfl rfl
          have r1 := S3.part (o := 2) (n := 3) (ws := crow nd.val) 1 rfl (by simp [nval, Value.cells]) rfl
          refine Tl.bind (f78c (k := k + 18) h3) ?_
          rintro ⟨mv, h4⟩ ⟨m4, em, S4'⟩
          simp only at em S4'
          subst em
          have S4 := S3.join S4'
          have g4 : Grow h3 h4 := S4'.grow
          obtain ⟨fo, jo, hfo, hcall⟩ := ordf_call (k := k + 18) nd.op (x.cmp nd.val) (by omega)
          have c04 := S4.cell (o := 0) (v := .int .i64 nd.op) 2 rfl rfl
          have r24 : h4.row b2 0 3 = some (crow x) := S4.row 1 (n := 3) rfl rfl
          have r14 := S4.part (o := 2) (n := 3) (ws := crow nd.val) 2 rfl (by simp [nval, Value.cells]) rfl
          have lk4 : pLookup Try.prog 101 (.map (some m4)) (.int .i64 nd.op) false h4 = some (ordf fo) := lookup_at (S4.sta.mem.at_ (i := 0) rfl) omapT u3 rfl hfo
          repeat (first | (with_reducible apply Tl.val; focus (simp (disch := omega) only [coreA, Int.reduceBEq, base_Vc, c04, lk4, r24, r14] <;> with_reducible rfl)) | (with_reducible first | refine Tl.brT ?_ | refine Tl.brF ?_ | refine Tl.gd_on ?_ | refine Tl.gd3_on ?_) | ((with_reducible first | apply Tl.brC | apply Tl.gdC | apply Tl.gd3C); focus (simp (disch := omega) only [coreA, Int.reduceBEq, base_Vc, c04, lk4, r24, r14] <;> with_reducible rfl)))
          refine Tl.call' S4 (f70c (k := k + 10) x nd.val h4) fun h5 S5 g5 => ?_
          have c05 := S5.cell (o := 0) (v := .int .i64 nd.op) 2 rfl rfl
          have lk5 : pLookup Try.prog 101 (.map (some m4)) (.int .i64 nd.op) false h5 = some (ordf fo) := lookup_at (S5.sta.mem.at_ (i := 0) rfl) omapT u3 rfl hfo
          repeat (first | (with_reducible apply Tl.val; focus (simp (disch := omega) only [coreA, Int.reduceBEq, base_Vc, hcall] <;> with_reducible rfl)) | (with_reducible first | refine Tl.brT ?_ | refine Tl.brF ?_ | refine Tl.gd_on ?_ | refine Tl.gd3_on ?_) | ((with_reducible first | apply Tl.brC | apply Tl.gdC | apply Tl.gd3C); focus (simp (disch := omega) only [coreA, Int.reduceBEq, base_Vc, hcall] <;> with_reducible rfl)))
          have hsf : sameV (ordf fo) (ordf fo) = true := by simp [ordf, sameV, sameList]
          refine Tl.chk ?_ ⟨_, rfl, rfl, S5.grow⟩
          simp only [ld3, ld45, Option.map_some, c0, c04, c05, r2, r24, r1, r14, lk4, lk5, sameO_some, sameV_int, same_cell, hsf, Bool.and_self, Bool.not_true, Bool.or_true, Bool.true_and, Bool.false_or, Bool.and_true]
    · rw [List.getElem?_eq_none (by omega)]
      repeat (first | (with_reducible apply Tl.val; focus (simp (disch := omega) only [coreA, Int.reduceBEq, base_Vc, c1, hv] <;> with_reducible rfl)) | (with_reducible first | refine Tl.brT ?_ | refine Tl.brF ?_ | refine Tl.gd_on ?_ | refine Tl.gd3_on ?_) | ((with_reducible first | apply Tl.brC | apply Tl.gdC | apply Tl.gd3C); focus (simp (disch := omega) only [coreA, Int.reduceBEq, base_Vc, c1, hv] <;> with_reducible rfl)))
      exact ⟨_, rfl, rfl, S1.grow⟩
  · rw [if_neg q0]
    repeat (first | (with_reducible apply Tl.val; focus (simp (disch := omega) only [coreA, Int.reduceBEq, base_Vc, c1, hv] <;> with_reducible rfl)) | (with_reducible first | refine Tl.brT ?_ | refine Tl.brF ?_ | refine Tl.gd_on ?_ | refine Tl.gd3_on ?_) | ((with_reducible first | apply Tl.brC | apply Tl.gdC | apply Tl.gd3C); focus (simp (disch := omega) only [coreA, Int.reduceBEq, base_Vc, c1, hv] <;> with_reducible rfl)))
    exact ⟨_, rfl, rfl, S1.grow⟩
end Go.Proofs.Ytjmfokglckaneaa.Sh
