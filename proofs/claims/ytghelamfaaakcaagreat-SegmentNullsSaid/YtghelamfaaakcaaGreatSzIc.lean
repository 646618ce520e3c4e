/- What 'Put' of the ints' package comes to. -/
import Derived.Test.YtghelamfaaakcaaGreatSzIb
set_option linter.unusedVariables false
set_option linter.unusedSimpArgs false
set_option maxRecDepth 100000
namespace Go.Proofs.YtghelamfaaakcaaGreat.Sh
open Go Go.RowKit Go.Proofs.Ev
theorem bzIc : type_of% (And.intro @ld3 (And.intro @ld2 (And.intro @ld4 (And.intro @ld5 (And.intro @ld60 (And.intro @ld33 (And.intro @ld121 (And.intro @ld63 (And.intro @ld153 (And.intro @ld158 (And.intro @ld83 (And.intro @fa158_0 (And.intro @fa158_1 (And.intro @fa158_2 (And.intro (fun a h => conv_int (a := a) (h := h) u3 u60) (And.intro (fun a h => conv_int (a := a) (h := h) u2 u60) (And.intro (fun a h => conv_int (a := a) (h := h) u60 u5) (And.intro (fun a h => conv_int (a := a) (h := h) u60 u2) (And.intro (fun a h => conv_int (a := a) (h := h) u3 u5) (And.intro @ex2_0 (@ex2_1))))))))))))))))))))) := And.intro @ld3 (And.intro @ld2 (And.intro @ld4 (And.intro @ld5 (And.intro @ld60 (And.intro @ld33 (And.intro @ld121 (And.intro @ld63 (And.intro @ld153 (And.intro @ld158 (And.intro @ld83 (And.intro @fa158_0 (And.intro @fa158_1 (And.intro @fa158_2 (And.intro (fun a h => conv_int (a := a) (h := h) u3 u60) (And.intro (fun a h => conv_int (a := a) (h := h) u2 u60) (And.intro (fun a h => conv_int (a := a) (h := h) u60 u5) (And.intro (fun a h => conv_int (a := a) (h := h) u60 u2) (And.intro (fun a h => conv_int (a := a) (h := h) u3 u5) (And.intro @ex2_0 (@ex2_1))))))))))))))))))))
def fnV (f : Nat) : Value := .func (.func f) #[] #[]
def formR (k f g : Nat) : List Value := [.int .u8 (k : Int), fnV f, fnV g]
def formsC : List Value := formR 1 144 145 ++ formR 2 146 147 ++ formR 3 148 149
def Fb (b : Nat) : Nat × AO := (b, .cells formsC 158 true)
theorem bd1 : pBuild Tryz.prog 158 #[(0, (.int .u8 1)), (1, (.func (.func 144) #[] #[])), (2, (.func (.func 145) #[] #[]))] = some (.agg (formR 1 144 145).toArray) := by kernel_rfl
theorem bd2 : pBuild Tryz.prog 158 #[(0, (.int .u8 2)), (1, (.func (.func 146) #[] #[])), (2, (.func (.func 147) #[] #[]))] = some (.agg (formR 2 146 147).toArray) := by kernel_rfl
theorem bd3 : pBuild Tryz.prog 158 #[(0, (.int .u8 3)), (1, (.func (.func 148) #[] #[])), (2, (.func (.func 149) #[] #[]))] = some (.agg (formR 3 148 149).toArray) := by kernel_rfl
theorem bsF (h : AH) : pBuildSlice Tryz.prog 154 3 #[(0, .agg (formR 1 144 145).toArray), (1, .agg (formR 2 146 147).toArray), (2, .agg (formR 3 148 149).toArray)] h = some (.slice (some ⟨h.n, 0, none⟩) 3 3, h.alloc (.cells formsC 158 true)) := by kernel_rfl
section
variable {n0 : Nat} {h0 h : AH} {L : List (Nat × AO)} {O : List OS}
theorem f121c {k : Nat} (S : Stt Tryz.prog n0 h0 h L O) : Tl (eInv env (k + 1) (.func 121) #[] #[] h) fun r => ∃ b, r.1 = .slice (some ⟨b, 0, none⟩) 3 3 ∧ Stt Tryz.prog n0 h0 r.2 (Fb b :: L) O := by
  rw [F121_call]
  unfold F121
  repeat (first | (with_reducible apply qzV; simp (disch := omega) only [coreA, Int.reduceBEq, bzIc, bd1, bd2, bd3, bsF] <;> with_reducible rfl) | (with_reducible first | apply qzT | apply qzF | apply qzG | apply qzH) | ((with_reducible first | apply qzB | apply qzC | apply qzD); simp (disch := omega) only [coreA, Int.reduceBEq, bzIc, bd1, bd2, bd3, bsF] <;> with_reducible rfl))
  exact ⟨_, rfl, _, rfl, S.alloc _⟩
theorem f78_step {β : Type} {k : Nat} {Q : β → Prop} {v : Value} {l : List Int} {fb kd F g : Nat} {B : List Nat} {av : Value} {brs : List (List Value)} {i m j : Nat} (A : Ints h0 v l) (hi : i < 3) (hF : (formsC.drop (i * 3)).take 3 = formR kd F g) (hm : O[m]? = some (av, 1, brs)) (hbr : brs.length ≤ 10)
    (S : Stt Tryz.prog h0.n h0 h (Fb fb :: L) O)
    (C : ∀ h', Ints h' v l → Tl (eInv env k (.func F) #[] #[v] h') fun r => ∃ o, r.1 = .tuple #[o, .int .i64 0] ∧ Grow h' r.2 ∧ OwnB Tryz.prog h'.n r.2 o 1 (u8rows B))
    {ke0 : Value → Value → Value → Value → Value → Value → AH → Option β} {kr : Value → Value → AH → Option β}
    (hk : ∀ h' o av', Stt Tryz.prog h0.n h0 h' (Fb fb :: L) ((o, 1, u8rows B) :: O.set m (av', 1, brs ++ [[o]])) → Tl (F78_lrlrr (eInv env k) k j v av' (.slice (some ⟨fb, 0, none⟩) 3 3) (.int .i64 3) (.int .i64 ((i + 1 : Nat) : Int)) h' ke0 kr) Q) :
    Tl (F78_lrlrr (eInv env k) k (j + 1) v av (.slice (some ⟨fb, 0, none⟩) 3 3) (.int .i64 3) (.int .i64 (i : Int)) h ke0 kr) Q := by
  have hp : pIndexAddr Tryz.prog 154 (.slice (some ⟨fb, 0, none⟩) 3 3) (.int .i64 (i : Int)) = some (.pointer (some ⟨fb, i * 3, none⟩)) := (indexAddr_slice u154 sz158 (by omega) (by omega)).trans (by simp)
  have hfl : formsC.length = 9 := rfl
  have hr : h.row fb (i * 3) 3 = some (formR kd F g) := by
    have hg : h.get fb = some (.cells formsC 158 true) := S.sta.mem.at_ (i := 0) rfl
    rw [row_of hg, if_pos (by rw [hfl]; omega), hF]
  have e : (i : Int) + 1 = ((i + 1 : Nat) : Int) := by omega
  simp only [F78_lrlrr]
  repeat (first | (with_reducible apply qzV; simp (disch := omega) only [coreA, Int.reduceBEq, bzIc, hp, hr] <;> with_reducible rfl) | (with_reducible first | apply qzT | apply qzF | apply qzG | apply qzH) | ((with_reducible first | apply qzB | apply qzC | apply qzD); simp (disch := omega) only [coreA, Int.reduceBEq, bzIc, hp, hr] <;> with_reducible rfl))
  refine Tl.alloc' S ze158 rfl fun b6 h1 S1 g1 => ?_
  refine Tl.store' S1 0 rfl sz158 rfl rfl (of_decide_eq_true rfl) fun h2 S2 _ => ?_
  have S2 : Stt Tryz.prog h0.n h0 h2 ((b6, .cells (formR kd F g) 158 true) :: Fb fb :: L) O := S2
  have c1 := S2.cell 0 (o := 1) (v := fnV F) rfl rfl
  repeat (first | (with_reducible apply qzV; simp (disch := omega) only [coreA, Int.reduceBEq, bzIc, c1] <;> with_reducible rfl) | (with_reducible first | apply qzT | apply qzF | apply qzG | apply qzH) | ((with_reducible first | apply qzB | apply qzC | apply qzD); simp (disch := omega) only [coreA, Int.reduceBEq, bzIc, c1] <;> with_reducible rfl))
  have S3 := S2.drop
  have ec : callV (eInv env k) (fnV F) #[v] h2 = eInv env k (.func F) #[] #[v] h2 := by
    have : callV (eInv env k) (fnV F) #[v] h2 = eInv env k (.func F) #[] (#[] ++ #[v]) h2 := rfl
    rw [this]; simp
  rw [ec]
  refine Tl.bind (C h2 (Sl1.grow A S3.grow)) ?_
  rintro ⟨r, h3⟩ ⟨o, er, g3, X⟩
  simp only at er g3 X
  subst er
  have S4 := S3.gain g3 X
  obtain ⟨a, c, eo, _⟩ := (X.slV).form
  repeat (first | (with_reducible apply qzV; simp (disch := omega) only [coreA, Int.reduceBEq, bzIc] <;> with_reducible rfl) | (with_reducible first | apply qzT | apply qzF | apply qzG | apply qzH) | ((with_reducible first | apply qzB | apply qzC | apply qzD); simp (disch := omega) only [coreA, Int.reduceBEq, bzIc] <;> with_reducible rfl))
  have bso : pBuildSlice Tryz.prog 153 1 #[(0, o)] h3 = some (.slice (some ⟨h3.n, 0, none⟩) 1 1, h3.alloc (.cells [o] 33 true)) := by
    rw [eo]; exact bs153 _ _ _ _
  refine Tl.push S4 (m + 1) (by simpa using hm) app153 bso rfl (by rw [eo]; rfl) (by omega) fun av' h5 S5 => ?_
  repeat (first | (with_reducible apply qzV; simp (disch := omega) only [coreA, Int.reduceBEq, bzIc] <;> with_reducible rfl) | (with_reducible first | apply qzT | apply qzF | apply qzG | apply qzH) | ((with_reducible first | apply qzB | apply qzC | apply qzD); simp (disch := omega) only [coreA, Int.reduceBEq, bzIc] <;> with_reducible rfl))
  rw [e]
  exact hk h5 o av' (by simpa using S5)
def putI (l : List Int) : List Nat :=
  let m := if (runsB l).length < (plainB l).length then runsB l else plainB l
  if (packB l).length < m.length then packB l else m
theorem f78s {k : Nat} {h : AH} {v : Value} {l : List Int} (A : Ints h v l) (hl : l.length ≤ 4096) (hk : l.length < k) :
    Tl (eInv env (k + 501) (.func 78) #[] #[v] h) fun r => ∃ o, r.1 = .tuple #[o, .int .i64 0] ∧ Stt Tryz.prog h.n h r.2 [] [(o, 1, u8rows (putI l))] := by
  rw [F78_call]
  unfold F78
  refine Tl.bind (f121c (k := k + 499) (Stt.init h)) ?_
  rintro ⟨r, h1⟩ ⟨fb, er, S1⟩
  simp only at er S1
  subst er
  have hv : ∀ h' : AH, pLen Tryz.prog #[154] (.slice (some ⟨fb, 0, none⟩) 3 3) h' = some (.int .i64 3) := fun h' => len_slice u154
  repeat (first | (with_reducible apply qzV; simp (disch := omega) only [coreA, Int.reduceBEq, bzIc, hv] <;> with_reducible rfl) | (with_reducible first | apply qzT | apply qzF | apply qzG | apply qzH) | ((with_reducible first | apply qzB | apply qzC | apply qzD); simp (disch := omega) only [coreA, Int.reduceBEq, bzIc, hv] <;> with_reducible rfl))
  have S1 := S1.nil 1
  refine f78_step (i := 0) (m := 0) (brs := []) (L := []) (j := k + 499) A (by omega) (kd := 1) (F := 144) (g := 145) rfl rfl (by simp) S1 (fun h' A' => by
    have := f144c (k := k + 470) A' hl (by omega)
    exact this) fun h2 pv a1 S2 => ?_
  refine f78_step (i := 1) (m := 1) (brs := [] ++ [[pv]]) (L := []) (j := k + 498) A (by omega) (kd := 2) (F := 146) (g := 147) rfl rfl (by simp) S2 (fun h' A' => by
    have := f146c (k := k + 470) A' hl (by omega)
    exact this) fun h3 rv a2 S3 => ?_
  refine f78_step (i := 2) (m := 2) (brs := [] ++ [[pv]] ++ [[rv]]) (L := []) (j := k + 497) A (by omega) (kd := 3) (F := 148) (g := 149) rfl rfl (by simp) S3 (fun h' A' => by
    have := f148c (k := k) A' hl (by omega)
    exact this) fun h4 tv a3 S4 => ?_
  have S4 : Stt Tryz.prog h.n h h4 [Fb fb] [(tv, 1, u8rows (packB l)), (rv, 1, u8rows (runsB l)), (pv, 1, u8rows (plainB l)), (a3, 1, [[pv], [rv], [tv]])] := S4
  have A3 : Sl1 Tryz.prog h4 a3 (fun x : Value × List Nat => x.1) ((pv, plainB l) :: [(rv, runsB l), (tv, packB l)]) := S4.slV 3 rfl
  have hB : ∀ x ∈ (pv, plainB l) :: [(rv, runsB l), (tv, packB l)], Bytes h4 x.1 x.2 := fun x hx => by
    simp only [List.mem_cons, List.not_mem_nil, or_false] at hx
    rcases hx with rfl | rfl | rfl
    · exact S4.sl1 (f := u8v) 2 rfl
    · exact S4.sl1 (f := u8v) 1 rfl
    · exact S4.sl1 (f := u8v) 0 rfl
  have mb := f122c (k := k + 496) A3 hB (by simp) (by simp)
  obtain ⟨j, hj⟩ : ∃ j, k + 497 = j + 1 := ⟨k + 496, rfl⟩
  rw [hj]
  simp only [F78_lrlrr]
  repeat (first | (with_reducible apply qzV; simp (disch := omega) only [coreA, Int.reduceBEq, bzIc, mb] <;> with_reducible rfl) | (with_reducible first | apply qzT | apply qzF | apply qzG | apply qzH) | ((with_reducible first | apply qzB | apply qzC | apply qzD); simp (disch := omega) only [coreA, Int.reduceBEq, bzIc, mb] <;> with_reducible rfl))
  refine ⟨_, rfl, _, rfl, ?_⟩
  have K0 : Stt Tryz.prog h.n h h4 [] [(tv, 1, u8rows (packB l))] := (S4.keepO (.cons_cons _ (List.nil_sublist _))).drop
  have K1 : Stt Tryz.prog h.n h h4 [] [(rv, 1, u8rows (runsB l))] := (S4.keepO (.cons _ (.cons_cons _ (List.nil_sublist _)))).drop
  have K2 : Stt Tryz.prog h.n h h4 [] [(pv, 1, u8rows (plainB l))] := (S4.keepO (.cons _ (.cons _ (.cons_cons _ (List.nil_sublist _))))).drop
  unfold putI
  simp only [List.foldl_cons, List.foldl_nil, shorter]
  by_cases q1 : (runsB l).length < (plainB l).length
  · simp only [if_pos q1]
    by_cases q2 : (packB l).length < (runsB l).length
    · simp only [if_pos q2]; exact K0
    · simp only [if_neg q2]; exact K1
  · simp only [if_neg q1]
    by_cases q2 : (packB l).length < (plainB l).length
    · simp only [if_pos q2]; exact K0
    · simp only [if_neg q2]; exact K2
end
end Go.Proofs.YtghelamfaaakcaaGreat.Sh
