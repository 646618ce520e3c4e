/- Rows of one's own: copies of rows. -/
import Derived.Test.YtjmfokglckaneaaSzVm
set_option linter.unusedVariables false
set_option linter.unusedSimpArgs false
set_option maxRecDepth 100000
namespace Go.Proofs.Ev
open Go Go.RowKit
section
variable {P : Program} {n0 : Nat} {h0 h : AH} {L : List (Nat × AO)} {O O' : List OS}
theorem apart_iff {O : List OS} : (∀ (i j : Nat) (x y : OS) (b : Nat), O[i]? = some x → O[j]? = some y → blkOf x.1 = some b → blkOf y.1 = some b → i = j) ↔ O.Pairwise fun x y => ∀ b, blkOf x.1 = some b → ¬ blkOf y.1 = some b := by
  rw [List.pairwise_iff_getElem]
  constructor
  · intro H i j hi hj hij b h1 h2
    have := H i j _ _ b (List.getElem?_eq_getElem hi) (List.getElem?_eq_getElem hj) h1 h2
    omega
  · intro H i j x y b hi hj h1 h2
    obtain ⟨l1, rfl⟩ := List.getElem?_eq_some_iff.1 hi
    obtain ⟨l2, rfl⟩ := List.getElem?_eq_some_iff.1 hj
    rcases Nat.lt_trichotomy i j with q | q | q
    · exact (H i j l1 l2 q b h1 h2).elim
    · exact q
    · exact (H j i l2 l1 q b h2 h1).elim
/-- One's own slices in another order. -/
theorem Stt.permO (S : Stt P n0 h0 h L O) (hp : O.Perm O') : Stt P n0 h0 h L O' :=
  ⟨S.sta, fun o ho => S.own o (hp.mem_iff.2 ho), apart_iff.2 ((hp.pairwise_iff fun q b h1 h2 => q b h2 h1).1 (apart_iff.1 S.apart))⟩
theorem Stt.subO (S : Stt P n0 h0 h L O) (hs : O'.Sublist O) : Stt P n0 h0 h L O' :=
  ⟨S.sta, fun o ho => S.own o (hs.subset ho), apart_iff.2 ((apart_iff.1 S.apart).sublist hs)⟩
end
section
variable {P : Program} {n0 : Nat} {h0 h : AH} {L : List (Nat × AO)} {O : List OS}
/-- A slice's block has elements of its size, or is another one's. -/
def SzV (P : Program) (h : AH) (v : Value) (n : Nat) : Prop := ∀ a m c, v = .slice (some a) m c → szOk P (some a) n h = true
theorem SzV.grow {v : Value} {n : Nat} (S : SzV P h v n) {h' : AH} (g : Grow h h') : SzV P h' v n := fun a m c e => by
  have := S a m c e
  unfold szOk at this ⊢
  simp only at this ⊢
  cases hg : h.get a.block with
  | none => rw [hg] at this; cases this
  | some o => rw [g.get hg]; rw [hg] at this; exact this
/-- A slice of one's own that is not written any more; where it may be cut. -/
theorem Stt.freezeS {v : Value} {n : Nat} {rows : List (List Value)} (S : Stt P n0 h0 h L ((v, n, rows) :: O)) : ∃ F, Stt P n0 h0 h (F ++ L) O ∧ ∀ h', Mem h' F → SlV P h' v n rows ∧ SzV P h' v n := by
  have hw : ∀ r ∈ rows, r.length = n := by
    rcases S.own _ (List.mem_cons_self ..) with ⟨_, q2⟩ | ⟨b, _, _, X⟩
    · simp only at q2; subst q2; intro r hr; cases hr
    · exact X.lie.wide
  rcases S.expose with ⟨rfl, rfl, S1⟩ | ⟨b, cs, e, rfl, hc, hs, S1⟩
  · exact ⟨[], S1, fun h' _ => ⟨.inl ⟨rfl, rfl⟩, fun a m c e => by cases e⟩⟩
  · refine ⟨[(b, .cells cs e true)], S1, fun h' hm => ⟨.inr ⟨b, 0, rows.length, true, rfl, Nat.le_refl _, ⟨⟨cs, e, hm.1, hc⟩, hw⟩⟩, fun a m c q => ?_⟩⟩
    cases q
    exact szOk_of hm.1 hs
end
end Go.Proofs.Ev
namespace Go.Proofs.Ytjmfokglckaneaa.Sh
open Go Go.RowKit Go.Proofs.Ev
theorem base_Vr : type_of% (And.intro @ld3 (And.intro @ld37 (And.intro @ld45 (And.intro @ld23 (@Nat.add_zero))))) := And.intro @ld3 (And.intro @ld37 (And.intro @ld45 (And.intro @ld23 (@Nat.add_zero))))
/-- Rows with the slices that hold them. -/
abbrev RS := List (Value × List CellD)
def outs (rs : RS) : List (List Value) := rs.map fun p => [p.1]
def owns (rs : RS) : List OS := rs.map fun p => (p.1, 3, p.2.map crow)
def rowsOf (rs : RS) : List (List CellD) := rs.map (·.2)
theorem outs_len (rs : RS) : (outs rs).length = rs.length := List.length_map ..
theorem rowsOf_len (rs : RS) : (rowsOf rs).length = rs.length := List.length_map ..
theorem all2_map {α γ : Type} {R : α → γ → Prop} : ∀ {l : List (α × γ)}, (∀ p ∈ l, R p.1 p.2) → All2 R (l.map (·.1)) (l.map (·.2))
  | [], _ => trivial
  | p :: l, h => ⟨h p (List.mem_cons_self ..), all2_map fun q hq => h q (List.mem_cons_of_mem _ hq)⟩
section
variable {n0 : Nat} {h0 h : AH} {L : List (Nat × AO)} {O : List OS} {v : Value} {rs : RS}
theorem ownRow (S : Stt Try.prog n0 h0 h L O) {w : Value} {r : List CellD} (hm : (w, 3, r.map crow) ∈ O) : Cells h w r := by
  obtain ⟨i, hi⟩ := List.mem_iff_getElem?.1 hm
  exact (S.slV i hi).z
theorem rows_out (S : Stt Try.prog n0 h0 h L (owns rs ++ O)) (hv : SlV Try.prog h v 1 (outs rs)) : Rows h v (rowsOf rs) := by
  refine ⟨rs.map (·.1), ?_, all2_map fun p hp => ownRow S (List.mem_append.2 (.inl (List.mem_map.2 ⟨p, hp, rfl⟩)))⟩
  rw [List.map_map]
  exact hv.z
theorem rowsOut (S : Stt Try.prog n0 h0 h L ((v, 1, outs rs) :: (owns rs ++ O))) : Rows h v (rowsOf rs) := rows_out S.dropO (S.slV 0 rfl)
end
theorem nlC {x y : Operand} : pBin Try.prog .eql 37 x y (.slice none 0 0) (.slice none 0 0) = some (.bool true) := by kernel_rfl
theorem slC {x y : Operand} {a : Addr} {n c : Nat} : pBin Try.prog .eql 37 x y (.slice (some a) n c) (.slice none 0 0) = some (.bool false) := by kernel_rfl
theorem bsC0 (h : AH) : pBuildSlice Try.prog 37 0 #[] h = some (.slice (some ⟨h.n, 0, none⟩) 0 0, h.alloc (.cells [] 45 true)) := by kernel_rfl
theorem appC : AppT Try.prog #[37, 37] 45 3 32 := ⟨by kernel_rfl, ⟨45, by kernel_rfl⟩, by kernel_rfl, by omega, by kernel_rfl, ⟨_, ze45, rfl, rfl⟩⟩
theorem one_crows : ∀ l : List CellD, (l.map crow).flatten.all oneCell = true
  | [] => rfl
  | a :: l => by
    rw [List.map_cons, List.flatten_cons, List.all_append, one_crows l]
    rfl
theorem sttE {n0 : Nat} {h0 h : AH} {L : List (Nat × AO)} {O : List OS} (S : Stt Try.prog n0 h0 h L O) : Stt Try.prog n0 h0 (h.alloc (.cells [] 45 true)) L ((.slice (some ⟨h.n, 0, none⟩) 0 0, 3, []) :: O) := by
  have X : OwnB Try.prog h.n (h.alloc (.cells [] 45 true)) (.slice (some ⟨h.n, 0, none⟩) 0 0) 3 [] :=
    .inr ⟨h.n, Nat.le_refl _, ⟨rfl, ⟨⟨[], 45, AH.get_alloc_new _ _, fun hq => absurd rfl hq⟩, fun r hr => by cases hr⟩, szOk_of (AH.get_alloc_new _ _) sz45⟩⟩
  exact S.gain (Grow.alloc h _) X
theorem f49c {k : Nat} {n0 : Nat} {h0 h : AH} {L : List (Nat × AO)} {O : List OS} {v : Value} {l : List CellD} (S : Stt Try.prog n0 h0 h L O) (B : Cells h v l) (hl : l.length ≤ 2 ^ 30) :
    Tl (eInv env (k + 1) (.func 49) #[] #[v] h) fun r => Stt Try.prog n0 h0 r.2 L ((r.1, 3, l.map crow) :: O) := by
  rw [F49_call]
  unfold F49
  by_cases q : v = .slice none 0 0
  · subst q
    have e : l = [] := by
      obtain ⟨a, c, e, _⟩ := SlZ.form B
      cases l with
      | nil => rfl
      | cons x l => simp at e
    repeat (first | (with_reducible apply Tl.val; focus (simp (disch := omega) only [coreA, Int.reduceBEq, base_Vr, nlC] <;> with_reducible rfl)) | (with_reducible first | refine Tl.brT ?_ | refine Tl.brF ?_ | refine Tl.gd_on ?_ | refine Tl.gd3_on ?_) | ((with_reducible first | apply Tl.brC | apply Tl.gdC | apply Tl.gd3C); focus (simp (disch := omega) only [coreA, Int.reduceBEq, base_Vr, nlC] <;> with_reducible rfl)))
    rw [e]
    exact ⟨_, rfl, S.nil 3⟩
  · have hv : ∃ a n c, v = .slice (some a) n c := by
      rcases B with (⟨e, _⟩ | ⟨b, off, cap, own, e, _⟩) | ⟨_, a, e⟩
      · exact absurd e q
      · exact ⟨_, _, _, e⟩
      · exact ⟨_, _, _, e⟩
    obtain ⟨a, n, c, rfl⟩ := hv
    obtain ⟨v', h', e1, e2⟩ := (sttE S).appendZ 0 rfl appC (SlZ.grow B (Grow.alloc h _)) (by simp; omega) (one_crows l)
    repeat (first | (with_reducible apply Tl.val; focus (simp (disch := omega) only [coreA, Int.reduceBEq, base_Vr, slC, bsC0, e1] <;> with_reducible rfl)) | (with_reducible first | refine Tl.brT ?_ | refine Tl.brF ?_ | refine Tl.gd_on ?_ | refine Tl.gd3_on ?_) | ((with_reducible first | apply Tl.brC | apply Tl.gdC | apply Tl.gd3C); focus (simp (disch := omega) only [coreA, Int.reduceBEq, base_Vr, slC, bsC0, e1] <;> with_reducible rfl)))
    exact ⟨_, rfl, e2⟩
theorem f27_loop {β : Type} {k : Nat} {Q : β → Prop} {h0 : AH} {v : Value} {rows : List (List CellD)} (R : Rows h0 v rows) (hl : rows.length ≤ 2 ^ 30) (hls : ∀ r ∈ rows, r.length ≤ 2 ^ 30)
    {ke0 : Value → Value → Value → Value → Value → AH → Option β} (n : Nat) :
    ∀ {i j : Nat} {h : AH} {x3 : Value} {rs : RS}, i + n = rows.length → n < j → rowsOf rs = rows.take i → Stt Try.prog h0.n h0 h [] ((x3, 1, outs rs) :: owns rs) →
      (∀ h' x3 rs y1 y2, rowsOf rs = rows → Stt Try.prog h0.n h0 h' [] ((x3, 1, outs rs) :: owns rs) → Tl (ke0 x3 v (.int .i64 rows.length) y1 y2 h') Q) →
      Tl (F27_lrlrr (eInv env (k + 1)) (k + 1) j x3 v (.int .i64 rows.length) (.int .i64 i) h ke0) Q := by
  induction n with
  | zero =>
    intro i j h x3 rs hi hj hr S hk
    obtain ⟨j, rfl⟩ : ∃ q, j = q + 1 := ⟨j - 1, by omega⟩
    simp only [F27_lrlrr]
    repeat (first | (with_reducible apply Tl.val; focus (simp (disch := omega) only [coreA, Int.reduceBEq, base_Vr] <;> with_reducible rfl)) | (with_reducible first | refine Tl.brT ?_ | refine Tl.brF ?_ | refine Tl.gd_on ?_ | refine Tl.gd3_on ?_) | ((with_reducible first | apply Tl.brC | apply Tl.gdC | apply Tl.gd3C); focus (simp (disch := omega) only [coreA, Int.reduceBEq, base_Vr] <;> with_reducible rfl)))
    exact hk _ _ rs _ _ (by rw [hr, List.take_of_length_le (by omega)]) S
  | succ n ih =>
    intro i j h x3 rs hi hj hr S hk
    obtain ⟨j, rfl⟩ : ∃ q, j = q + 1 := ⟨j - 1, by omega⟩
    obtain ⟨x, ex⟩ : ∃ x, rows[i]? = some x := ⟨_, List.getElem?_eq_getElem (by omega)⟩
    obtain ⟨b, o, w, hp, hc, C⟩ := (R.grow S.grow).at_ ex
    have e : (i : Int) + 1 = ((i + 1 : Nat) : Int) := by omega
    simp only [F27_lrlrr]
    repeat (first | (with_reducible apply Tl.val; focus (simp (disch := omega) only [coreA, Int.reduceBEq, base_Vr, hp, hc] <;> with_reducible rfl)) | (with_reducible first | refine Tl.brT ?_ | refine Tl.brF ?_ | refine Tl.gd_on ?_ | refine Tl.gd3_on ?_) | ((with_reducible first | apply Tl.brC | apply Tl.gdC | apply Tl.gd3C); focus (simp (disch := omega) only [coreA, Int.reduceBEq, base_Vr, hp, hc] <;> with_reducible rfl)))
    refine Tl.bind (f49c S C (hls x (List.mem_of_getElem? ex))) fun r S1 => ?_
    obtain ⟨w', h1⟩ := r
    simp only at S1
    obtain ⟨a, c, ew, _⟩ := (S1.slV 0 rfl).form
    have hlen : rs.length = i := by
      have := congrArg List.length hr
      rw [rowsOf_len, List.length_take] at this
      omega
    show Tl (bnd (pBuildSlice Try.prog 23 1 #[(0, w')] h1) _) Q
    refine Tl.push S1 1 rfl app23 (r := [w']) (by rw [ew]; exact bs23 _ _ _ _) rfl (by rw [ew]; rfl) (by rw [outs_len]; omega) fun v' h' S2 => ?_
    have S3 := S2.permO (O' := (v', 1, outs (rs ++ [(w', x)])) :: owns (rs ++ [(w', x)])) (by
      unfold outs owns
      rw [List.map_append, List.map_append]
      exact (List.Perm.swap _ _ _).trans (.cons _ (List.perm_append_singleton _ _).symm))
    repeat (first | (with_reducible apply Tl.val; focus (simp (disch := omega) only [coreA, Int.reduceBEq, base_Vr] <;> with_reducible rfl)) | (with_reducible first | refine Tl.brT ?_ | refine Tl.brF ?_ | refine Tl.gd_on ?_ | refine Tl.gd3_on ?_) | ((with_reducible first | apply Tl.brC | apply Tl.gdC | apply Tl.gd3C); focus (simp (disch := omega) only [coreA, Int.reduceBEq, base_Vr] <;> with_reducible rfl)))
    rw [e]
    exact ih (by omega) (by omega) (by
      unfold rowsOf at hr ⊢
      rw [List.map_append, hr, List.take_add_one, ex]; rfl) S3 hk
theorem f27c {k : Nat} {h : AH} {v : Value} {rows : List (List CellD)} (R : Rows h v rows) (hl : rows.length ≤ 2 ^ 30) (hls : ∀ r ∈ rows, r.length ≤ 2 ^ 30) (hk : rows.length < k + 1) :
    Tl (eInv env (k + 2) (.func 27) #[] #[v] h) fun r => ∃ rs, rowsOf rs = rows ∧ Stt Try.prog h.n h r.2 [] ((r.1, 1, outs rs) :: owns rs) := by
  rw [F27_call]
  unfold F27
  have hv : ∀ h', pLen Try.prog #[23] v h' = some (.int .i64 rows.length) := fun h' => R.len
  repeat (first | (with_reducible apply Tl.val; focus (simp (disch := omega) only [coreA, Int.reduceBEq, base_Vr, hv] <;> with_reducible rfl)) | (with_reducible first | refine Tl.brT ?_ | refine Tl.brF ?_ | refine Tl.gd_on ?_ | refine Tl.gd3_on ?_) | ((with_reducible first | apply Tl.brC | apply Tl.gdC | apply Tl.gd3C); focus (simp (disch := omega) only [coreA, Int.reduceBEq, base_Vr, hv] <;> with_reducible rfl)))
  exact f27_loop R hl hls rows.length (i := 0) (rs := []) (by omega) (by omega) (by simp [rowsOf]) ((Stt.init h).nil 1) fun h' x3 rs y1 y2 hr S => ⟨_, rfl, rs, hr, S⟩
end Go.Proofs.Ytjmfokglckaneaa.Sh
