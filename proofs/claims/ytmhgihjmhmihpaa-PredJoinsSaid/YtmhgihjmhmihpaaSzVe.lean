/- What 'pred.Join' comes to. -/
import Derived.Test.YtmhgihjmhmihpaaSzVd
set_option linter.unusedVariables false
set_option linter.unusedSimpArgs false
set_option maxRecDepth 100000
namespace Go.Proofs.Ytmhgihjmhmihpaa.Sh
open Go Go.RowKit Go.Proofs.Ev
theorem base_Ve : type_of% (And.intro @ld3 (And.intro @ld46 (And.intro @ld48 (And.intro @ld22 (And.intro @fa48_0 (And.intro @fa48_1 (And.intro @fa48_2 (And.intro @fa48_3 (@Nat.add_zero))))))))) := And.intro @ld3 (And.intro @ld46 (And.intro @ld48 (And.intro @ld22 (And.intro @fa48_0 (And.intro @fa48_1 (And.intro @fa48_2 (And.intro @fa48_3 (@Nat.add_zero))))))))
theorem nlI {x y : Operand} : pBin Try.prog .eql 46 x y (.slice none 0 0) (.slice none 0 0) = some (.bool true) := by kernel_rfl
theorem slI {x y : Operand} {a : Addr} {n c : Nat} : pBin Try.prog .eql 46 x y (.slice (some a) n c) (.slice none 0 0) = some (.bool false) := by kernel_rfl
theorem bsI (h : AH) : pBuildSlice Try.prog 46 0 #[] h = some (.slice (some ⟨h.n, 0, none⟩) 0 0, h.alloc (.cells [] 3 true)) := by kernel_rfl
theorem one_irows (l : List Int) : (irows l).flatten.all oneCell = true := flat_one (fun x : Int => .int .i64 x) (fun _ => rfl) l
theorem f29c {k : Nat} {n0 : Nat} {h0 h : AH} {L : List (Nat × AO)} {O : List OS} {v : Value} {l : List Int} (S : Stt Try.prog n0 h0 h L O) (B : IntsZ h v l) (hl : l.length ≤ 2 ^ 30) :
    Tl (eInv env (k + 1) (.func 29) #[] #[v] h) fun r => Stt Try.prog n0 h0 r.2 L ((r.1, 1, irows l) :: O) := by
  rw [F29_call]
  unfold F29
  have X : OwnB Try.prog h.n (h.alloc (.cells [] 3 true)) (.slice (some ⟨h.n, 0, none⟩) 0 0) 1 [] :=
    .inr ⟨h.n, Nat.le_refl _, ⟨rfl, ⟨⟨[], 3, AH.get_alloc_new _ _, fun hq => absurd rfl hq⟩, fun r hr => by cases hr⟩, szOk_of (AH.get_alloc_new _ _) sz3⟩⟩
  have S1 := S.gain (Grow.alloc h _) X
  rcases B with B | ⟨hn, a, rfl⟩
  · by_cases q : v = .slice none 0 0
    · subst q
      rcases B with ⟨_, e⟩ | ⟨b, off, cap, own, e, _⟩
      · repeat (first | (with_reducible apply Tl.val; focus (simp (disch := omega) only [coreA, Int.reduceBEq, base_Ve, nlI] <;> with_reducible rfl)) | (with_reducible first | refine Tl.brT ?_ | refine Tl.brF ?_ | refine Tl.gd_on ?_ | refine Tl.gd3_on ?_) | ((with_reducible first | apply Tl.brC | apply Tl.gdC | apply Tl.gd3C); focus (simp (disch := omega) only [coreA, Int.reduceBEq, base_Ve, nlI] <;> with_reducible rfl)))
        rw [e]
        exact ⟨_, rfl, S.nil 1⟩
      · cases e
    · obtain ⟨v', h', e1, e2, e3, e4⟩ := S1.append 0 rfl app46 (SlV.grow B (Grow.alloc h _)) (by rw [irows_len]; simp; omega) (one_irows l)
      rcases B with ⟨e, _⟩ | ⟨b, off, cap, own, e, _⟩
      · exact absurd e q
      · subst e
        repeat (first | (with_reducible apply Tl.val; focus (simp (disch := omega) only [coreA, Int.reduceBEq, base_Ve, slI, bsI, e1] <;> with_reducible rfl)) | (with_reducible first | refine Tl.brT ?_ | refine Tl.brF ?_ | refine Tl.gd_on ?_ | refine Tl.gd3_on ?_) | ((with_reducible first | apply Tl.brC | apply Tl.gdC | apply Tl.gd3C); focus (simp (disch := omega) only [coreA, Int.reduceBEq, base_Ve, slI, bsI, e1] <;> with_reducible rfl)))
        exact ⟨_, rfl, e2⟩
  · have e1 : pAppend Try.prog #[46, 46] (.slice (some ⟨h.n, 0, none⟩) 0 0) (.slice (some a) 0 0) (h.alloc (.cells [] 3 true)) = some (.slice (some ⟨h.n, 0, none⟩) 0 0, h.alloc (.cells [] 3 true)) := by
      have T := app46
      obtain ⟨z, hz, _, _⟩ := T.zero
      obtain ⟨e2, he'⟩ := T.other
      unfold pAppend
      rw [T.elem, he']
      simp only [isIntT_slice, Bool.false_eq_true, if_false, T.size, T.byt, lenE, hz]
      simp [cellsOf]
    repeat (first | (with_reducible apply Tl.val; focus (simp (disch := omega) only [coreA, Int.reduceBEq, base_Ve, slI, bsI, e1] <;> with_reducible rfl)) | (with_reducible first | refine Tl.brT ?_ | refine Tl.brF ?_ | refine Tl.gd_on ?_ | refine Tl.gd3_on ?_) | ((with_reducible first | apply Tl.brC | apply Tl.gdC | apply Tl.gd3C); focus (simp (disch := omega) only [coreA, Int.reduceBEq, base_Ve, slI, bsI, e1] <;> with_reducible rfl)))
    rw [hn]
    exact ⟨_, rfl, S1⟩
theorem upd_at {α : Type} {g : α → α} {l : List α} {i : Nat} {x : α} (h : l[i]? = some x) : ((l.take i).map g ++ l.drop i)[i]? = some x ∧ ((l.take i).map g ++ l.drop i).set i (g x) = (l.take (i + 1)).map g ++ l.drop (i + 1) := by
  have hi := (List.getElem?_eq_some_iff.1 h).1
  have hl : ((l.take i).map g).length = i := by simp; omega
  constructor
  · rw [List.getElem?_append_right (by omega), hl, Nat.sub_self, drop_at h]
    rfl
  · rw [drop_at h, List.set_append, if_neg (by omega), hl, Nat.sub_self, List.set_cons_zero, List.take_add_one, h]
    simp
theorem irows_set (l : List Int) (i : Nat) (x : Int) : (irows l).set i [.int .i64 x] = irows (l.set i x) := by simp [irows, List.map_set]
theorem f12_add {β : Type} {inv : Inv} {k : Nat} {Q : β → Prop} {n0 : Nat} {h0 : AH} {L : List (Nat × AO)} {O : List OS} {b11 bY : Nat} {nd : NodeD} {cv x5 x6 x15 x16 x17 x30 x31 x32 : Value} {ps : List Int}
    (hps : ∀ x ∈ ps, -2 ^ 50 ≤ x ∧ x ≤ 2 ^ 50) (hb : bY ≤ 2 ^ 40) (hl : ps.length ≤ 2 ^ 40)
    {ke4 : Value → Value → Value → Value → Value → Value → Value → Value → Value → Value → Value → Value → Value → AH → Option β} (n : Nat) :
    ∀ {i j : Nat} {h : AH}, i + n = ps.length → n < j → Stt Try.prog n0 h0 h ((b11, .cells (nrow nd cv) 48 true) :: L) ((cv, 1, irows ((ps.take i).map (· + (bY : Int)) ++ ps.drop i)) :: O) →
      (∀ h' y43 y44, Stt Try.prog n0 h0 h' ((b11, .cells (nrow nd cv) 48 true) :: L) ((cv, 1, irows (ps.map (· + (bY : Int)))) :: O) → Tl (ke4 x5 x6 (.int .i64 bY) (ptr b11) x15 x16 x17 x30 x31 x32 (.int .i64 ps.length) y43 y44 h') Q) →
      Tl (F12_lrlrrllrrllrlrrrllrrllrlrrr inv k j x5 x6 (.int .i64 bY) (ptr b11) x15 x16 x17 x30 x31 x32 (.int .i64 ps.length) (.int .i64 i) h ke4) Q := by
  induction n with
  | zero =>
    intro i j h hi hj S hk
    obtain ⟨j, rfl⟩ : ∃ q, j = q + 1 := ⟨j - 1, by omega⟩
    simp only [F12_lrlrrllrrllrlrrrllrrllrlrrr]
    repeat (first | (with_reducible apply Tl.val; focus (simp (disch := omega) only [coreA, Int.reduceBEq, base_Ve] <;> with_reducible rfl)) | (with_reducible first | refine Tl.brT ?_ | refine Tl.brF ?_ | refine Tl.gd_on ?_ | refine Tl.gd3_on ?_) | ((with_reducible first | apply Tl.brC | apply Tl.gdC | apply Tl.gd3C); focus (simp (disch := omega) only [coreA, Int.reduceBEq, base_Ve] <;> with_reducible rfl)))
    rw [List.take_of_length_le (by omega), List.drop_eq_nil_of_le (by omega), List.append_nil] at S
    exact hk _ _ _ S
  | succ n ih =>
    intro i j h hi hj S hk
    obtain ⟨j, rfl⟩ : ∃ q, j = q + 1 := ⟨j - 1, by omega⟩
    obtain ⟨x, ex⟩ : ∃ x, ps[i]? = some x := ⟨_, List.getElem?_eq_getElem (by omega)⟩
    obtain ⟨u1, u2⟩ := upd_at (g := (· + (bY : Int))) ex
    have hx := hps x (List.mem_of_getElem? ex)
    have e : (i : Int) + 1 = ((i + 1 : Nat) : Int) := by omega
    have hlen : ((ps.take i).map (· + (bY : Int)) ++ ps.drop i).length = ps.length := by simp; omega
    obtain ⟨b, emb, hm⟩ := S.idx (t := 46) 0 rfl (kd := .i64) (j := i) (by rw [irows_len, hlen]; omega) u46 sz3
    obtain ⟨_, _, hp, hc⟩ := (show IntsZ h cv _ from (S.slV 0 rfl).z).at_ u1
    rw [hm] at hp
    cases hp
    have c5 : h.cell b11 5 = some cv := S.cell 0 rfl rfl
    simp only [F12_lrlrrllrrllrlrrrllrrllrlrrr]
    unfold ptr
    repeat (first | (with_reducible apply Tl.val; focus (simp (disch := omega) only [coreA, Int.reduceBEq, base_Ve, c5, hm, hc] <;> with_reducible rfl)) | (with_reducible first | refine Tl.brT ?_ | refine Tl.brF ?_ | refine Tl.gd_on ?_ | refine Tl.gd3_on ?_) | ((with_reducible first | apply Tl.brC | apply Tl.gdC | apply Tl.gd3C); focus (simp (disch := omega) only [coreA, Int.reduceBEq, base_Ve, c5, hm, hc] <;> with_reducible rfl)))
    refine Tl.setAt S 0 rfl emb (by rw [irows_len, hlen]; omega) rfl sz3 rfl fun h' S' => ?_
    have S' : Stt Try.prog n0 h0 h' ((b11, .cells (nrow nd cv) 48 true) :: L) ((cv, 1, irows ((ps.take (i + 1)).map (· + (bY : Int)) ++ ps.drop (i + 1))) :: O) := by
      rw [← u2, ← irows_set]
      exact S'
    repeat (first | (with_reducible apply Tl.val; focus (simp (disch := omega) only [coreA, Int.reduceBEq, base_Ve] <;> with_reducible rfl)) | (with_reducible first | refine Tl.brT ?_ | refine Tl.brF ?_ | refine Tl.gd_on ?_ | refine Tl.gd3_on ?_) | ((with_reducible first | apply Tl.brC | apply Tl.gdC | apply Tl.gd3C); focus (simp (disch := omega) only [coreA, Int.reduceBEq, base_Ve] <;> with_reducible rfl)))
    rw [e]
    exact ih (by omega) (by omega) S' hk
/-! ### Nodes, joined -/
def shiftN (by_ : Nat) (nd : NodeD) : NodeD := { nd with parts := nd.parts.map (· + (by_ : Int)) }
/-- A row whose parts lie in blocks that are known. -/
def NodeF (Fz : List (Nat × AO)) (r : List Value) (nd : NodeD) : Prop := ∃ pv, r = nrow nd pv ∧ ∀ h', Mem h' Fz → IntsZ h' pv nd.parts
theorem NodeF.more {F Fz : List (Nat × AO)} {r : List Value} {nd : NodeD} (h : NodeF Fz r nd) : NodeF (F ++ Fz) r nd := by
  obtain ⟨pv, e, hp⟩ := h
  exact ⟨pv, e, fun h' hm => hp h' (Mem.app.1 hm).2⟩
theorem appP : AppT Try.prog #[22, 22] 48 6 72 := ⟨by kernel_rfl, ⟨48, by kernel_rfl⟩, by kernel_rfl, by omega, by kernel_rfl, ⟨_, ze48, rfl, rfl⟩⟩
theorem bsP (nd : NodeD) (a : Option Addr) (m c : Nat) (h : AH) : pBuildSlice Try.prog 22 1 #[(0, .agg (nrow nd (.slice a m c)).toArray)] h = some (.slice (some ⟨h.n, 0, none⟩) 1 1, h.alloc (.cells (nrow nd (.slice a m c)) 48 true)) := by kernel_rfl
theorem f12_nodes {β : Type} {k : Nat} {Q : β → Prop} {h0 : AH} {O : List OS} {b6 bY : Nat} {cs6 : List Value} {v x15 x16 x17 : Value} {l : List NodeD} (PL : Preds h0 v l) (hb : bY ≤ 2 ^ 40) (hl : l.length ≤ 2000)
    (hps : ∀ nd ∈ l, nd.parts.length ≤ 900 ∧ ∀ x ∈ nd.parts, -2 ^ 50 ≤ x ∧ x ≤ 2 ^ 50) (hk1 : 1000 < k)
    {ke2 : Value → Value → Value → Value → Value → Value → Value → Value → Value → Value → AH → Option β} (n : Nat) :
    ∀ {i j : Nat} {Fz : List (Nat × AO)} {rows : List (List Value)} {nodes : List NodeD} {outv : Value} {h : AH}, i + n = l.length → n < j → rows.length + n ≤ 4000 → All2 (NodeF Fz) rows nodes → Stt Try.prog h0.n h0 h ((b6, .cells cs6 48 true) :: Fz) ((outv, 6, rows) :: O) →
      (∀ h' Fz' rows' outv' y30 y31 y32 y33, All2 (NodeF Fz') rows' (nodes ++ (l.drop i).map (shiftN bY)) → Stt Try.prog h0.n h0 h' ((b6, .cells cs6 48 true) :: Fz') ((outv', 6, rows') :: O) → Tl (ke2 outv' (ptr b6) (.int .i64 bY) x15 x16 x17 y30 y31 y32 y33 h') Q) →
      Tl (F12_lrlrrrllrrllrlrrr (eInv env k) k j outv (ptr b6) (.int .i64 bY) x15 x16 x17 v (.int .i64 l.length) (.int .i64 i) h ke2) Q := by
  obtain ⟨k, rfl⟩ : ∃ q, k = q + 1 := ⟨k - 1, by omega⟩
  induction n with
  | zero =>
    intro i j Fz rows nodes outv h hi hj hr A S hk
    obtain ⟨j, rfl⟩ : ∃ q, j = q + 1 := ⟨j - 1, by omega⟩
    simp only [F12_lrlrrrllrrllrlrrr]
    repeat (first | (with_reducible apply Tl.val; focus (simp (disch := omega) only [coreA, Int.reduceBEq, base_Ve] <;> with_reducible rfl)) | (with_reducible first | refine Tl.brT ?_ | refine Tl.brF ?_ | refine Tl.gd_on ?_ | refine Tl.gd3_on ?_) | ((with_reducible first | apply Tl.brC | apply Tl.gdC | apply Tl.gd3C); focus (simp (disch := omega) only [coreA, Int.reduceBEq, base_Ve] <;> with_reducible rfl)))
    rw [List.drop_eq_nil_of_le (by omega), List.map_nil, List.append_nil] at hk
    exact hk _ _ _ _ _ _ _ _ A S
  | succ n ih =>
    intro i j Fz rows nodes outv h hi hj hr A S hk
    obtain ⟨j, rfl⟩ : ∃ q, j = q + 1 := ⟨j - 1, by omega⟩
    obtain ⟨nd, ex⟩ : ∃ x, l[i]? = some x := ⟨_, List.getElem?_eq_getElem (by omega)⟩
    obtain ⟨b, o, pv, hp, hrow, N⟩ := PL.at_ ex
    obtain ⟨hn1, hn2⟩ := hps nd (List.mem_of_getElem? ex)
    have hrow1 := S.grow.row hrow
    obtain ⟨pa, pc, epv, _⟩ := SlZ.form N
    rw [irows_len] at epv
    subst epv
    have e : (i : Int) + 1 = ((i + 1 : Nat) : Int) := by omega
    rw [drop_at ex, List.map_cons] at hk
    simp only [F12_lrlrrrllrrllrlrrr]
    repeat (first | (with_reducible apply Tl.val; focus (simp (disch := omega) only [coreA, Int.reduceBEq, base_Ve, hp, hrow1] <;> with_reducible rfl)) | (with_reducible first | refine Tl.brT ?_ | refine Tl.brF ?_ | refine Tl.gd_on ?_ | refine Tl.gd3_on ?_) | ((with_reducible first | apply Tl.brC | apply Tl.gdC | apply Tl.gd3C); focus (simp (disch := omega) only [coreA, Int.reduceBEq, base_Ve, hp, hrow1] <;> with_reducible rfl)))
    refine Tl.alloc' S ze48 (by rfl) fun b11 h1 S1 g1 => ?_
    refine Tl.store' S1 0 rfl sz48 rfl rfl (by simp [Value.cells]) fun h2 S2 k2 => ?_
    have S2 : Stt Try.prog h0.n h0 h2 ((b11, .cells (nrow nd (.slice pa nd.parts.length pc)) 48 true) :: (b6, .cells cs6 48 true) :: Fz) ((outv, 6, rows) :: O) := S2
    have c5 : h2.cell b11 5 = some (.slice pa nd.parts.length pc) := S2.cell 0 rfl rfl
    repeat (first | (with_reducible apply Tl.val; focus (simp (disch := omega) only [coreA, Int.reduceBEq, base_Ve, c5] <;> with_reducible rfl)) | (with_reducible first | refine Tl.brT ?_ | refine Tl.brF ?_ | refine Tl.gd_on ?_ | refine Tl.gd3_on ?_) | ((with_reducible first | apply Tl.brC | apply Tl.gdC | apply Tl.gd3C); focus (simp (disch := omega) only [coreA, Int.reduceBEq, base_Ve, c5] <;> with_reducible rfl)))
    refine Tl.bind (f29c (k := k) S2 (N.grow S2.grow) (by omega)) ?_
    rintro ⟨cv, h3⟩ S3
    simp only at S3
    obtain ⟨w1, w2, w3, w4⟩ := slV_cells (S3.slV 0 rfl)
    obtain ⟨ca, cc, ecv, _⟩ := (S3.slV 0 rfl).form
    repeat (first | (with_reducible apply Tl.val; focus (simp (disch := omega) only [coreA, Int.reduceBEq, base_Ve] <;> with_reducible rfl)) | (with_reducible first | refine Tl.brT ?_ | refine Tl.brF ?_ | refine Tl.gd_on ?_ | refine Tl.gd3_on ?_) | ((with_reducible first | apply Tl.brC | apply Tl.gdC | apply Tl.gd3C); focus (simp (disch := omega) only [coreA, Int.reduceBEq, base_Ve] <;> with_reducible rfl)))
    refine Tl.store' S3 0 rfl sz46 w2 (by rw [w1]; simp [w3]) (by simp [nrow]) fun h4 S4 k4 => ?_
    have S4 : Stt Try.prog h0.n h0 h4 ((b11, .cells (nrow nd cv) 48 true) :: (b6, .cells cs6 48 true) :: Fz) ((cv, 1, irows nd.parts) :: (outv, 6, rows) :: O) := by
      rw [w1] at S4
      exact S4
    have d5 : h4.cell b11 5 = some cv := S4.cell 0 rfl rfl
    have hv : ∀ h', pLen Try.prog #[46] cv h' = some (.int .i64 nd.parts.length) := fun h' => (show IntsZ h4 cv nd.parts from (S4.slV 0 rfl).z).len
    repeat (first | (with_reducible apply Tl.val; focus (simp (disch := omega) only [coreA, Int.reduceBEq, base_Ve, d5, hv] <;> with_reducible rfl)) | (with_reducible first | refine Tl.brT ?_ | refine Tl.brF ?_ | refine Tl.gd_on ?_ | refine Tl.gd3_on ?_) | ((with_reducible first | apply Tl.brC | apply Tl.gdC | apply Tl.gd3C); focus (simp (disch := omega) only [coreA, Int.reduceBEq, base_Ve, d5, hv] <;> with_reducible rfl)))
    refine f12_add hn2 hb (by omega) nd.parts.length (i := 0) (by omega) (by omega) (by simpa using S4) fun h5 y43 y44 S5 => ?_
    have r6 : h5.row b11 0 6 = some (nrow nd cv) := S5.row 0 rfl rfl
    obtain ⟨F, S6, hF⟩ := S5.freeze
    subst ecv
    unfold ptr
    repeat (first | (with_reducible apply Tl.val; focus (simp (disch := omega) only [coreA, Int.reduceBEq, base_Ve, r6] <;> with_reducible rfl)) | (with_reducible first | refine Tl.brT ?_ | refine Tl.brF ?_ | refine Tl.gd_on ?_ | refine Tl.gd3_on ?_) | ((with_reducible first | apply Tl.brC | apply Tl.gdC | apply Tl.gd3C); focus (simp (disch := omega) only [coreA, Int.reduceBEq, base_Ve, r6] <;> with_reducible rfl)))
    refine Tl.push S6 0 rfl appP (bsP nd _ _ _ _) rfl rfl (by omega) fun v' h6 S7 => ?_
    repeat (first | (with_reducible apply Tl.val; focus (simp (disch := omega) only [coreA, Int.reduceBEq, base_Ve] <;> with_reducible rfl)) | (with_reducible first | refine Tl.brT ?_ | refine Tl.brF ?_ | refine Tl.gd_on ?_ | refine Tl.gd3_on ?_) | ((with_reducible first | apply Tl.brC | apply Tl.gdC | apply Tl.gd3C); focus (simp (disch := omega) only [coreA, Int.reduceBEq, base_Ve] <;> with_reducible rfl)))
    rw [e]
    have S8 : Stt Try.prog h0.n h0 h6 ((b6, .cells cs6 48 true) :: (F ++ Fz)) ((v', 6, rows ++ [nrow nd (.slice ca (irows nd.parts).length cc)]) :: O) := by
      have hp : (F ++ (b11, AO.cells (nrow nd (.slice ca (irows nd.parts).length cc)) 48 true) :: (b6, .cells cs6 48 true) :: Fz).Perm ((b11, AO.cells (nrow nd (.slice ca (irows nd.parts).length cc)) 48 true) :: (b6, .cells cs6 48 true) :: (F ++ Fz)) :=
        List.perm_middle.trans (List.Perm.cons _ List.perm_middle)
      exact (S7.perm hp).drop
    refine ih (by omega) (by omega) (by simp; omega) (nodes := nodes ++ [shiftN bY nd]) ((A.mono fun _ _ h => h.more).snoc ⟨_, rfl, fun h' hm => ?_⟩) S8 fun h' Fz' rows' outv' y30 y31 y32 y33 A' S' => ?_
    · exact (hF h' (Mem.app.1 hm).1).z
    · rw [List.append_assoc] at A'
      exact hk h' Fz' rows' outv' _ _ _ _ A' S'
def cell0 : CellD := ⟨0, 0, .empty⟩
def opN (op : Int) : NodeD := ⟨op, 0, cell0, []⟩
def joinStep (s : List NodeD × List Int) (l : List NodeD) : List NodeD × List Int :=
  ((if l = [] then s.1 ++ [opN 1] else s.1) ++ l.map (shiftN s.1.length), s.2 ++ [(((if l = [] then s.1 ++ [opN 1] else s.1) ++ l.map (shiftN s.1.length)).length : Int) - 1])
/-- Predicates as parts of one. -/
def joinL (op : Int) (ls : List (List NodeD)) : List NodeD := (ls.foldl joinStep ([], [])).1 ++ [{ opN op with parts := (ls.foldl joinStep ([], [])).2 }]
theorem bd48 (op : Int) : pBuild Try.prog 48 #[(0, .int .i64 op)] = some (.agg (nrow (opN op) (.slice none 0 0)).toArray) := by kernel_rfl
theorem irows_snoc (l : List Int) (x : Int) : irows l ++ [[.int .i64 x]] = irows (l ++ [x]) := by simp [irows]
def lightNode (nd : NodeD) : Prop := nd.parts.length ≤ 900 ∧ ∀ x ∈ nd.parts, -2 ^ 50 ≤ x ∧ x ≤ 2 ^ 50
theorem f12_out {β : Type} {k : Nat} {Q : β → Prop} {h0 : AH} {b6 : Nat} {op : Int} {lv : Value} {vs : List Value} {ls : List (List NodeD)} (LV : SlZ Try.prog h0 lv 1 (vs.map fun v => [v])) (A2 : All2 (Preds h0) vs ls)
    (hlsn : ls.length ≤ 100) (hls : ∀ l ∈ ls, l.length ≤ 300 ∧ ∀ nd ∈ l, lightNode nd) (hk1 : 1001 < k)
    {ke0 : Value → Value → Value → Value → Value → Value → AH → Option β} (n : Nat) :
    ∀ {i j : Nat} {Fz : List (Nat × AO)} {rows : List (List Value)} {st : List NodeD × List Int} {outv lpv : Value} {h : AH}, i + n = ls.length → n < j → rows.length + 301 * n ≤ 3600 → st.2.length + n ≤ 100 → All2 (NodeF Fz) rows st.1 →
      Stt Try.prog h0.n h0 h ((b6, .cells (nrow (opN op) lpv) 48 true) :: Fz) [(outv, 6, rows), (lpv, 1, irows st.2)] →
      (∀ h' Fz' rows' outv' lpv' y1 y2 y3 y4, rows'.length ≤ 3600 → All2 (NodeF Fz') rows' ((ls.drop i).foldl joinStep st).1 → Stt Try.prog h0.n h0 h' ((b6, .cells (nrow (opN op) lpv') 48 true) :: Fz') [(outv', 6, rows'), (lpv', 1, irows ((ls.drop i).foldl joinStep st).2)] → Tl (ke0 outv' (ptr b6) y1 y2 y3 y4 h') Q) →
      Tl (F12_lrlrrr (eInv env k) k j outv (ptr b6) lv (.int .i64 ls.length) (.int .i64 i) h ke0) Q := by
  induction n with
  | zero =>
    intro i j Fz rows st outv lpv h hi hj hr hs A S hk
    obtain ⟨j, rfl⟩ : ∃ q, j = q + 1 := ⟨j - 1, by omega⟩
    simp only [F12_lrlrrr]
    repeat (first | (with_reducible apply Tl.val; focus (simp (disch := omega) only [coreA, Int.reduceBEq, base_Ve] <;> with_reducible rfl)) | (with_reducible first | refine Tl.brT ?_ | refine Tl.brF ?_ | refine Tl.gd_on ?_ | refine Tl.gd3_on ?_) | ((with_reducible first | apply Tl.brC | apply Tl.gdC | apply Tl.gd3C); focus (simp (disch := omega) only [coreA, Int.reduceBEq, base_Ve] <;> with_reducible rfl)))
    rw [List.drop_eq_nil_of_le (by omega)] at hk
    exact hk _ _ _ _ _ _ _ _ _ (by omega) A S
  | succ n ih =>
    intro i j Fz rows st outv lpv h hi hj hr hs A S hk
    obtain ⟨j, rfl⟩ : ∃ q, j = q + 1 := ⟨j - 1, by omega⟩
    obtain ⟨l, ex⟩ : ∃ x, ls[i]? = some x := ⟨_, List.getElem?_eq_getElem (by omega)⟩
    obtain ⟨pv, epv, PL⟩ := A2.get ex
    obtain ⟨hl1, hl2⟩ := hls l (List.mem_of_getElem? ex)
    obtain ⟨b, o, hp, hrow⟩ := LV.at_ (t := 45) (k := .i64) (i := i) (r := [pv]) (by simp [epv]) u45 sz22
    have hrow1 := S.grow.row hrow
    have hc1 : h.cell b o = some pv := by simpa using Ev.cell_of_row (j := 0) hrow1 (by omega)
    have e : (i : Int) + 1 = ((i + 1 : Nat) : Int) := by omega
    rw [drop_at ex, List.foldl_cons] at hk
    have hlo : ∀ h', pLen Try.prog #[22] outv h' = some (.int .i64 rows.length) := fun h' => (S.slV 0 rfl).len u22
    have hlp : ∀ h', pLen Try.prog #[22] pv h' = some (.int .i64 l.length) := fun h' => PL.len
    have el : rows.length = st.1.length := A.len
    simp only [F12_lrlrrr]
    unfold F12_rlrrllrrllrlrrr
    -- what comes behind the nodes
    have tail : ∀ (Fz' : List (Nat × AO)) (rows' : List (List Value)) (outv' : Value) (h' : AH) (y30 y31 y32 y33 : Value), rows'.length + 301 * n ≤ 3600 → All2 (NodeF Fz') rows' (joinStep st l).1 → Stt Try.prog h0.n h0 h' ((b6, .cells (nrow (opN op) lpv) 48 true) :: Fz') [(outv', 6, rows'), (lpv, 1, irows st.2)] →
        Tl (G12_20 (eInv env k) outv' (ptr b6) lv (.int .i64 ls.length) (.int .i64 i) h' fun h_9 =>
          bnd (pBin Try.prog .add 3 (.tmp 17) (.const (.int .i64 1)) (.int .i64 i) (.int .i64 1)) fun x68 =>
          F12_lrlrrr (eInv env k) k j outv' (ptr b6) lv (.int .i64 ls.length) x68 h_9 ke0) Q := by
      intro Fz' rows' outv' h' y30 y31 y32 y33 hr' A' S'
      have c5 : h'.cell b6 5 = some lpv := S'.cell 0 rfl rfl
      have hlo' : ∀ h', pLen Try.prog #[22] outv' h' = some (.int .i64 rows'.length) := fun h' => (S'.slV 0 rfl).len u22
      unfold ptr
      repeat (first | (with_reducible apply Tl.val; focus (simp (disch := omega) only [coreA, Int.reduceBEq, base_Ve, c5, hlo'] <;> with_reducible rfl)) | (with_reducible first | refine Tl.brT ?_ | refine Tl.brF ?_ | refine Tl.gd_on ?_ | refine Tl.gd3_on ?_) | ((with_reducible first | apply Tl.brC | apply Tl.gdC | apply Tl.gd3C); focus (simp (disch := omega) only [coreA, Int.reduceBEq, base_Ve, c5, hlo'] <;> with_reducible rfl)))
      refine Tl.push S' 1 rfl app46 (bs46 _ _) rfl rfl (by rw [irows_len]; omega) fun lpv' h1 S1 => ?_
      rw [irows_snoc] at S1
      have S1 : Stt Try.prog h0.n h0 h1 ((b6, .cells (nrow (opN op) lpv) 48 true) :: Fz') [(outv', 6, rows'), (lpv', 1, irows (st.2 ++ [(rows'.length : Int) - 1]))] := S1
      obtain ⟨w1, w2, w3, w4⟩ := slV_cells (S1.slV 1 rfl)
      repeat (first | (with_reducible apply Tl.val; focus (simp (disch := omega) only [coreA, Int.reduceBEq, base_Ve] <;> with_reducible rfl)) | (with_reducible first | refine Tl.brT ?_ | refine Tl.brF ?_ | refine Tl.gd_on ?_ | refine Tl.gd3_on ?_) | ((with_reducible first | apply Tl.brC | apply Tl.gdC | apply Tl.gd3C); focus (simp (disch := omega) only [coreA, Int.reduceBEq, base_Ve] <;> with_reducible rfl)))
      refine Tl.store' S1 0 rfl sz46 w2 (by rw [w1]; simp [w3]) (by simp [nrow]) fun h2 S2 k2 => ?_
      have S2 : Stt Try.prog h0.n h0 h2 ((b6, .cells (nrow (opN op) lpv') 48 true) :: Fz') [(outv', 6, rows'), (lpv', 1, irows (st.2 ++ [(rows'.length : Int) - 1]))] := by
        rw [w1] at S2
        exact S2
      repeat (first | (with_reducible apply Tl.val; focus (simp (disch := omega) only [coreA, Int.reduceBEq, base_Ve] <;> with_reducible rfl)) | (with_reducible first | refine Tl.brT ?_ | refine Tl.brF ?_ | refine Tl.gd_on ?_ | refine Tl.gd3_on ?_) | ((with_reducible first | apply Tl.brC | apply Tl.gdC | apply Tl.gd3C); focus (simp (disch := omega) only [coreA, Int.reduceBEq, base_Ve] <;> with_reducible rfl)))
      rw [e]
      have e2 : (joinStep st l).2 = st.2 ++ [(rows'.length : Int) - 1] := by
        rw [A'.len]; rfl
      exact ih (i := i + 1) (j := j) (st := joinStep st l) (by omega) (by omega) hr' (by rw [e2]; simp; omega) A' (by rw [e2]; exact S2) hk
    by_cases q : l = []
    · have hl0 : l.length = 0 := by rw [q]; rfl
      repeat (first | (with_reducible apply Tl.val; focus (simp (disch := omega) only [coreA, Int.reduceBEq, base_Ve, hp, hc1, hlo, hlp, bd48] <;> with_reducible rfl)) | (with_reducible first | refine Tl.brT ?_ | refine Tl.brF ?_ | refine Tl.gd_on ?_ | refine Tl.gd3_on ?_) | ((with_reducible first | apply Tl.brC | apply Tl.gdC | apply Tl.gd3C); focus (simp (disch := omega) only [coreA, Int.reduceBEq, base_Ve, hp, hc1, hlo, hlp, bd48] <;> with_reducible rfl)))
      refine Tl.push S 0 rfl appP (bsP (opN 1) none 0 0 _) rfl rfl (by omega) fun v' h1 S1 => ?_
      repeat (first | (with_reducible apply Tl.val; focus (simp (disch := omega) only [coreA, Int.reduceBEq, base_Ve, hlp] <;> with_reducible rfl)) | (with_reducible first | refine Tl.brT ?_ | refine Tl.brF ?_ | refine Tl.gd_on ?_ | refine Tl.gd3_on ?_) | ((with_reducible first | apply Tl.brC | apply Tl.gdC | apply Tl.gd3C); focus (simp (disch := omega) only [coreA, Int.reduceBEq, base_Ve, hlp] <;> with_reducible rfl)))
      refine f12_nodes PL (by omega) (by omega) (fun nd hnd => by rw [q] at hnd; cases hnd) (by omega) 0 (i := 0) (nodes := st.1 ++ [opN 1]) (by omega) (by omega) (by simp; omega) (A.snoc ⟨_, rfl, fun h' _ => .inl (.inl ⟨rfl, rfl⟩)⟩) S1 fun h2 Fz' rows' outv' y30 y31 y32 y33 A' S' => ?_
      have A'' : All2 (NodeF Fz') rows' (joinStep st l).1 := by simpa [joinStep, q] using A'
      have := A''.len
      simp [joinStep, q] at this
      exact tail Fz' rows' outv' h2 y30 y31 y32 y33 (by omega) A'' S'
    · have hne : ¬ (l.length : Int) = 0 := by
        have := List.length_pos_iff.2 q
        omega
      repeat (first | (with_reducible apply Tl.val; focus (simp (disch := omega) only [coreA, Int.reduceBEq, base_Ve, hp, hc1, hlo, hlp] <;> with_reducible rfl)) | (with_reducible first | refine Tl.brT ?_ | refine Tl.brF ?_ | refine Tl.gd_on ?_ | refine Tl.gd3_on ?_) | ((with_reducible first | apply Tl.brC | apply Tl.gdC | apply Tl.gd3C); focus (simp (disch := omega) only [coreA, Int.reduceBEq, base_Ve, hp, hc1, hlo, hlp] <;> with_reducible rfl)))
      refine f12_nodes PL (bY := rows.length) (by omega) (by omega) hl2 (by omega) l.length (i := 0) (nodes := st.1) (by omega) (by omega) (by omega) A S fun h2 Fz' rows' outv' y30 y31 y32 y33 A' S' => ?_
      have A'' : All2 (NodeF Fz') rows' (joinStep st l).1 := by
        rw [el] at A'
        simpa [joinStep, q] using A'
      have := A''.len
      simp [joinStep, q] at this
      exact tail Fz' rows' outv' h2 y30 y31 y32 y33 (by omega) A'' S'
theorem f12c {k : Nat} {h : AH} {op : Int} {lv : Value} {vs : List Value} {ls : List (List NodeD)} (LV : SlZ Try.prog h lv 1 (vs.map fun v => [v])) (A2 : All2 (Preds h) vs ls)
    (hn : ls.length ≤ 10) (hls : ∀ l ∈ ls, l.length ≤ 300 ∧ ∀ nd ∈ l, lightNode nd) :
    Tl (eInv env (k + 1100) (.func 12) #[] #[.int .i64 op, lv] h) fun r => Preds r.2 r.1 (joinL op ls) ∧ Grow h r.2 := by
  rw [F12_call]
  unfold F12
  have hlv : ∀ h', pLen Try.prog #[45] lv h' = some (.int .i64 ls.length) := fun h' => by
    have := LV.len u45 (h' := h')
    rwa [List.length_map, A2.len] at this
  repeat (first | (with_reducible apply Tl.val; focus (simp (disch := omega) only [coreA, Int.reduceBEq, base_Ve, bd48] <;> with_reducible rfl)) | (with_reducible first | refine Tl.brT ?_ | refine Tl.brF ?_ | refine Tl.gd_on ?_ | refine Tl.gd3_on ?_) | ((with_reducible first | apply Tl.brC | apply Tl.gdC | apply Tl.gd3C); focus (simp (disch := omega) only [coreA, Int.reduceBEq, base_Ve, bd48] <;> with_reducible rfl)))
  refine Tl.alloc' (Stt.init h) ze48 (by rfl) fun b6 h1 S1 g1 => ?_
  refine Tl.store' S1 0 rfl sz48 rfl rfl (by simp [Value.cells]) fun h2 S2 k2 => ?_
  have S2 : Stt Try.prog h.n h h2 [(b6, .cells (nrow (opN op) (.slice none 0 0)) 48 true)] [(.slice none 0 0, 6, []), (.slice none 0 0, 1, irows [])] := (Stt.nil (Stt.nil S2 1) 6)
  repeat (first | (with_reducible apply Tl.val; focus (simp (disch := omega) only [coreA, Int.reduceBEq, base_Ve, hlv] <;> with_reducible rfl)) | (with_reducible first | refine Tl.brT ?_ | refine Tl.brF ?_ | refine Tl.gd_on ?_ | refine Tl.gd3_on ?_) | ((with_reducible first | apply Tl.brC | apply Tl.gdC | apply Tl.gd3C); focus (simp (disch := omega) only [coreA, Int.reduceBEq, base_Ve, hlv] <;> with_reducible rfl)))
  refine f12_out LV A2 (by omega) hls (by omega) ls.length (i := 0) (Fz := []) (rows := []) (st := ([], [])) (by omega) (by omega) (by simp; omega) (by simp; omega) trivial S2 fun h3 Fz rows outv lpv y1 y2 y3 y4 hr A S3 => ?_
  rw [List.drop_zero] at A S3
  have r6 : h3.row b6 0 6 = some (nrow (opN op) lpv) := S3.row 0 rfl rfl
  obtain ⟨la, lc, elp, _⟩ := (S3.slV 1 rfl).form
  subst elp
  unfold ptr
  repeat (first | (with_reducible apply Tl.val; focus (simp (disch := omega) only [coreA, Int.reduceBEq, base_Ve, r6] <;> with_reducible rfl)) | (with_reducible first | refine Tl.brT ?_ | refine Tl.brF ?_ | refine Tl.gd_on ?_ | refine Tl.gd3_on ?_) | ((with_reducible first | apply Tl.brC | apply Tl.gdC | apply Tl.gd3C); focus (simp (disch := omega) only [coreA, Int.reduceBEq, base_Ve, r6] <;> with_reducible rfl)))
  refine Tl.push S3 0 rfl appP (bsP _ _ _ _ _) rfl rfl (by omega) fun v' h4 S4 => ?_
  refine ⟨_, rfl, ?_, S4.grow⟩
  refine ⟨_, (S4.slV 0 rfl).z, (A.mono fun r nd hrn => ?_).snoc ⟨_, rfl, (S4.slV 1 rfl).z⟩⟩
  obtain ⟨pv, er, hpv⟩ := hrn
  exact ⟨pv, er, hpv _ S4.sta.mem.2⟩
end Go.Proofs.Ytmhgihjmhmihpaa.Sh
