/- What 'Get' of the ints' package comes to. -/
import Derived.Test.YtcidbbkefpeahaaSzId
set_option linter.unusedVariables false
set_option linter.unusedSimpArgs false
set_option maxRecDepth 100000
namespace Go.Proofs.Ytcidbbkefpeahaa.Sh
open Go Go.RowKit Go.Proofs.Ev
theorem mfGet (b : Nat) : pMakeFunc (Go.Fn.func 38) #[] #[.pointer (some ⟨b, 0, none⟩)] = some (.func (.func 38) #[] #[.pointer (some ⟨b, 0, none⟩)]) := rfl
theorem base_Ie : type_of% (And.intro @ld3 (And.intro @ld2 (And.intro @ld4 (And.intro @ld5 (And.intro @ld51 (And.intro @ld26 (And.intro @ld25 (And.intro @ld50 (And.intro @ld46 (And.intro @ld29 (And.intro @ld44 (And.intro @fa46_0 (And.intro @fa46_1 (And.intro @fa46_2 (And.intro (fun a h => conv_int (a := a) (h := h) u5 u51) (And.intro (fun a h => conv_int (a := a) (h := h) u51 u3) (And.intro @mfGet (And.intro @ex2_0 (@ex2_1))))))))))))))))))) := And.intro @ld3 (And.intro @ld2 (And.intro @ld4 (And.intro @ld5 (And.intro @ld51 (And.intro @ld26 (And.intro @ld25 (And.intro @ld50 (And.intro @ld46 (And.intro @ld29 (And.intro @ld44 (And.intro @fa46_0 (And.intro @fa46_1 (And.intro @fa46_2 (And.intro (fun a h => conv_int (a := a) (h := h) u5 u51) (And.intro (fun a h => conv_int (a := a) (h := h) u51 u3) (And.intro @mfGet (And.intro @ex2_0 (@ex2_1))))))))))))))))))
def formB (kd : Nat) (l : List Int) : List Nat := if kd = 1 then plainB l else if kd = 2 then runsB l else packB l
def getI (b : List Nat) : Option (List Int) := match b with
  | [] => none
  | kind :: r0 => match dec 0 0 r0 with
    | none => none
    | some (n, r1) => if n > 4096 then none else if kind = 1 ∨ kind = 2 ∨ kind = 3 then (match kindG kind n r1 with
      | none => none
      | some l => if formB kind l = kind :: r0 then some l else none) else none
theorem RV.ins {L : List (Nat × AO)} {a p : Nat × AO} {rv : Value} {rest : List Nat} (R : RV (a :: L) 0 rv rest) : RV (a :: p :: L) 0 rv rest := by
  rcases R with R | ⟨j, bb, o, cs, e, h1, h2, h3⟩
  · exact .inl R
  · obtain ⟨j, rfl⟩ : ∃ q, j = q + 1 := ⟨j - 1, by omega⟩
    exact .inr ⟨j + 2, bb, o, cs, e, by omega, by simpa using h2, h3⟩
section
variable {n0 : Nat} {h0 h : AH} {L : List (Nat × AO)} {O : List OS}
def Kb (b5 kind : Nat) : Nat × AO := (b5, .cells [.int .u64 (kind : Int)] 51 true)
theorem f38c {k i b5 kind kd f g : Nat} (S : Stt Try.prog n0 h0 h L O) (hi : L[i]? = some (Kb b5 kind)) (hk : kd < 256) :
    Tl (callV (eInv env (k + 1)) (.func (.func 38) #[] #[.pointer (some ⟨b5, 0, none⟩)]) #[.agg (formR kd f g).toArray] h) fun r => r.1 = .bool ((kd : Int) == (kind : Int)) ∧ Stt Try.prog n0 h0 r.2 L O := by
  have e : callV (eInv env (k + 1)) (.func (.func 38) #[] #[.pointer (some ⟨b5, 0, none⟩)]) #[.agg (formR kd f g).toArray] h = eInv env (k + 1) (.func 38) #[.pointer (some ⟨b5, 0, none⟩)] (#[] ++ #[.agg (formR kd f g).toArray]) h := rfl
  rw [e, show ((#[] : Array Value) ++ #[.agg (formR kd f g).toArray]) = #[.agg (formR kd f g).toArray] by simp, inv_cap (E := env) (f := 38) (by kernel_rfl), show ((#[.agg (formR kd f g).toArray] : Array Value) ++ #[.pointer (some ⟨b5, 0, none⟩)]) = #[.agg (formR kd f g).toArray, .pointer (some ⟨b5, 0, none⟩)] by simp, F38_eq]
  unfold F38
  refine Tl.box' S rfl (by rw [sz46]; rfl) fun bx h1 S1 g1 => ?_
  have S1 : Stt Try.prog n0 h0 h1 ((bx, .cells (formR kd f g) 46 true) :: L) O := S1
  have c0 := S1.cell 0 (o := 0) (v := .int .u8 (kd : Int)) rfl rfl
  have c1 := S1.cell (i + 1) (o := 0) (v := .int .u64 (kind : Int)) (by rw [List.getElem?_cons_succ]; exact hi) rfl
  repeat (first | (with_reducible apply Tl.val; focus (simp (disch := omega) only [coreA, Int.reduceBEq, base_Ie, c0, c1] <;> with_reducible rfl)) | (with_reducible first | refine Tl.brT ?_ | refine Tl.brF ?_ | refine Tl.gd_on ?_ | refine Tl.gd3_on ?_) | ((with_reducible first | apply Tl.brC | apply Tl.gdC | apply Tl.gd3C); focus (simp (disch := omega) only [coreA, Int.reduceBEq, base_Ie, c0, c1] <;> with_reducible rfl)))
  exact ⟨_, rfl, rfl, S1.drop⟩
theorem f37_step {β : Type} {k : Nat} {Q : β → Prop} {b5 fb kind i kd F g j m : Nat} (hi : i < 3) (hF : (formsC.drop (i * 3)).take 3 = formR kd F g) (hkd : kd < 256) (S : Stt Try.prog n0 h0 h (Fb fb :: L) O) (h5 : L[m]? = some (Kb b5 kind))
    {ke0 : Value → Value → Value → Value → Value → AH → Option β} {kr : Value → AH → Option β}
    (hyes : kd = kind → ∀ h', Stt Try.prog n0 h0 h' (Fb fb :: L) O → Tl (kr (.int .i64 (i : Int)) h') Q)
    (hno : kd ≠ kind → ∀ h', Stt Try.prog n0 h0 h' (Fb fb :: L) O → Tl (F37_lrlr (eInv env (k + 1)) (k + 1) j (.slice (some ⟨fb, 0, none⟩) 3 3) (.func (.func 38) #[] #[.pointer (some ⟨b5, 0, none⟩)]) (.int .i64 3) (.int .i64 ((i + 1 : Nat) : Int)) h' ke0 kr) Q) :
    Tl (F37_lrlr (eInv env (k + 1)) (k + 1) (j + 1) (.slice (some ⟨fb, 0, none⟩) 3 3) (.func (.func 38) #[] #[.pointer (some ⟨b5, 0, none⟩)]) (.int .i64 3) (.int .i64 (i : Int)) h ke0 kr) Q := by
  have hp : pIndexAddr Try.prog 42 (.slice (some ⟨fb, 0, none⟩) 3 3) (.int .i64 (i : Int)) = some (.pointer (some ⟨fb, i * 3, none⟩)) := (indexAddr_slice u42 sz46 (by omega) (by omega)).trans (by simp)
  have hfl : formsC.length = 9 := rfl
  have hr : h.row fb (i * 3) 3 = some (formR kd F g) := by
    have hg : h.get fb = some (.cells formsC 46 true) := S.sta.mem.at_ (i := 0) rfl
    rw [row_of hg, if_pos (by rw [hfl]; omega), hF]
  have e : (i : Int) + 1 = ((i + 1 : Nat) : Int) := by omega
  simp only [F37_lrlr]
  repeat (first | (with_reducible apply Tl.val; focus (simp (disch := omega) only [coreA, Int.reduceBEq, base_Ie, hp, hr] <;> with_reducible rfl)) | (with_reducible first | refine Tl.brT ?_ | refine Tl.brF ?_ | refine Tl.gd_on ?_ | refine Tl.gd3_on ?_) | ((with_reducible first | apply Tl.brC | apply Tl.gdC | apply Tl.gd3C); focus (simp (disch := omega) only [coreA, Int.reduceBEq, base_Ie, hp, hr] <;> with_reducible rfl)))
  refine Tl.bind (f38c (k := k) (f := F) (g := g) S (i := m + 1) (by simpa using h5) hkd) ?_
  rintro ⟨r, h1⟩ ⟨er, S1⟩
  simp only at er S1
  subst er
  by_cases q : kd = kind
  · have eb : ((kd : Int) == (kind : Int)) = true := by subst q; simp
    rw [eb]
    repeat (first | (with_reducible apply Tl.val; focus (simp (disch := omega) only [coreA, Int.reduceBEq, base_Ie] <;> with_reducible rfl)) | (with_reducible first | refine Tl.brT ?_ | refine Tl.brF ?_ | refine Tl.gd_on ?_ | refine Tl.gd3_on ?_) | ((with_reducible first | apply Tl.brC | apply Tl.gdC | apply Tl.gd3C); focus (simp (disch := omega) only [coreA, Int.reduceBEq, base_Ie] <;> with_reducible rfl)))
    exact hyes q h1 S1
  · have eb : ((kd : Int) == (kind : Int)) = false := by simp; omega
    rw [eb]
    repeat (first | (with_reducible apply Tl.val; focus (simp (disch := omega) only [coreA, Int.reduceBEq, base_Ie] <;> with_reducible rfl)) | (with_reducible first | refine Tl.brT ?_ | refine Tl.brF ?_ | refine Tl.gd_on ?_ | refine Tl.gd3_on ?_) | ((with_reducible first | apply Tl.brC | apply Tl.gdC | apply Tl.gd3C); focus (simp (disch := omega) only [coreA, Int.reduceBEq, base_Ie] <;> with_reducible rfl)))
    rw [e]
    exact hno q h1 S1
def idxK (kind : Nat) : Int := if kind = 1 then 0 else if kind = 2 then 1 else if kind = 3 then 2 else -1
theorem f37c {k b5 fb kind m : Nat} (S : Stt Try.prog n0 h0 h (Fb fb :: L) O) (h5 : L[m]? = some (Kb b5 kind)) :
    Tl (eInv env (k + 10) (.func 37) #[] #[.slice (some ⟨fb, 0, none⟩) 3 3, .func (.func 38) #[] #[.pointer (some ⟨b5, 0, none⟩)]] h) fun r => r.1 = .int .i64 (idxK kind) ∧ Stt Try.prog n0 h0 r.2 (Fb fb :: L) O := by
  rw [F37_call]
  unfold F37
  have hv : ∀ h' : AH, pLen Try.prog #[42] (.slice (some ⟨fb, 0, none⟩) 3 3) h' = some (.int .i64 3) := fun h' => len_slice u42
  repeat (first | (with_reducible apply Tl.val; focus (simp (disch := omega) only [coreA, Int.reduceBEq, base_Ie, hv] <;> with_reducible rfl)) | (with_reducible first | refine Tl.brT ?_ | refine Tl.brF ?_ | refine Tl.gd_on ?_ | refine Tl.gd3_on ?_) | ((with_reducible first | apply Tl.brC | apply Tl.gdC | apply Tl.gd3C); focus (simp (disch := omega) only [coreA, Int.reduceBEq, base_Ie, hv] <;> with_reducible rfl)))
  unfold idxK
  refine f37_step (k := k + 8) (i := 0) (j := k + 8) (by omega) (kd := 1) (F := 13) (g := 50) rfl (by omega) S h5 (fun q h' S' => ?_) (fun q1 h' S' => ?_)
  · subst q
    exact ⟨_, rfl, rfl, S'⟩
  refine f37_step (k := k + 8) (i := 1) (j := k + 7) (by omega) (kd := 2) (F := 14) (g := 51) rfl (by omega) S' h5 (fun q h' S' => ?_) (fun q2 h' S' => ?_)
  · subst q
    exact ⟨_, rfl, rfl, S'⟩
  refine f37_step (k := k + 8) (i := 2) (j := k + 6) (by omega) (kd := 3) (F := 11) (g := 52) rfl (by omega) S' h5 (fun q h' S' => ?_) (fun q3 h' S' => ?_)
  · subst q
    exact ⟨_, rfl, rfl, S'⟩
  simp only [F37_lrlr]
  repeat (first | (with_reducible apply Tl.val; focus (simp (disch := omega) only [coreA, Int.reduceBEq, base_Ie] <;> with_reducible rfl)) | (with_reducible first | refine Tl.brT ?_ | refine Tl.brF ?_ | refine Tl.gd_on ?_ | refine Tl.gd3_on ?_) | ((with_reducible first | apply Tl.brC | apply Tl.gdC | apply Tl.gd3C); focus (simp (disch := omega) only [coreA, Int.reduceBEq, base_Ie] <;> with_reducible rfl)))
  rw [if_neg (Ne.symm q1), if_neg (Ne.symm q2), if_neg (Ne.symm q3)]
  exact ⟨_, rfl, rfl, S'⟩
end
theorem headB_256 {f : Nat} (hf : f < 256) (n : Nat) : ∀ x ∈ headB f n, x < 256 := fun x hx => by
  rcases List.mem_cons.1 hx with rfl | hx
  · exact hf
  · exact pvarN_256 _ x hx
theorem formB_256 (kd : Nat) (l : List Int) : ∀ x ∈ formB kd l, x < 256 := fun x hx => by
  unfold formB at hx
  split at hx
  · rcases List.mem_append.1 hx with hx | hx
    · exact headB_256 (by omega) _ x hx
    · obtain ⟨z, _, hz⟩ := List.mem_flatMap.1 hx
      exact le_lt _ _ _ x hz
  · split at hx
    · rcases List.mem_append.1 hx with hx | hx
      · exact headB_256 (by omega) _ x hx
      · obtain ⟨z, _, hz⟩ := List.mem_flatMap.1 hx
        rcases List.mem_append.1 hz with hz | hz
        · exact pvarN_256 _ x hz
        · exact le_lt _ _ _ x hz
    · unfold packB at hx
      rcases List.mem_append.1 hx with hx | hx
      · rcases List.mem_append.1 hx with hx | hx
        · exact headB_256 (by omega) _ x hx
        · exact le_lt _ _ _ x hx
      · rcases List.mem_cons.1 hx with rfl | hx
        · have := widI_le l; omega
        · exact (putN_spec _ _).2.2 x hx
/-- A form's functions. -/
structure Fns (kd i F g : Nat) : Prop where
  lt : i < 3
  row : (formsC.drop (i * 3)).take 3 = formR kd F g
  idx : idxK kd = (i : Int)
  put : ∀ {k : Nat} {h : AH} {v : Value} {l : List Int}, Ints h v l → l.length ≤ 4096 → Tl (eInv env (k + 6000) (.func F) #[] #[v] h) fun r => ∃ o, r.1 = .tuple #[o, .int .i64 0] ∧ Grow h r.2 ∧ OwnB Try.prog h.n r.2 o 1 (u8rows (formB kd l))
  get : ∀ {k : Nat} {n0 : Nat} {h0 h : AH} {L : List (Nat × AO)} {O : List OS} {br n : Nat} {rv : Value} {rest : List Nat}, Stt Try.prog n0 h0 h (Rb br rv :: L) O → RV (Rb br rv :: L) 0 rv rest → n ≤ 4096 →
    rest.length ≤ 5000 → (∀ x ∈ rest, x < 256) → Tl (eInv env (k + 6000) (.func g) #[] #[ptr br, .int .i64 n] h) (ReadQ n0 h0 br L O (kindG kd n rest))
theorem fns1 : Fns 1 0 13 50 := ⟨by omega, rfl, rfl, by intro k h v l A hl; exact f13c (k := k + 5970) A hl (by omega), by intro k n0 h0 h L O br n rv rest S R hn hl hb; exact f50c (k := k) S R hn hl hb⟩
theorem fns2 : Fns 2 1 14 51 := ⟨by omega, rfl, rfl, by intro k h v l A hl; exact f14c (k := k + 5970) A hl (by omega), by intro k n0 h0 h L O br n rv rest S R hn hl hb; exact f51c (k := k) S R hn hl hb⟩
theorem fns3 : Fns 3 2 11 52 := ⟨by omega, rfl, rfl, by intro k h v l A hl; exact f11c (k := k + 5500) A hl (by omega), by intro k n0 h0 h L O br n rv rest S R hn hl hb; exact f52c (k := k) S R hn hl hb⟩
theorem fns {kd : Nat} (h : kd = 1 ∨ kd = 2 ∨ kd = 3) : ∃ i F g, Fns kd i F g := by
  rcases h with rfl | rfl | rfl
  · exact ⟨_, _, _, fns1⟩
  · exact ⟨_, _, _, fns2⟩
  · exact ⟨_, _, _, fns3⟩
theorem f15c {k : Nat} {h : AH} {v : Value} {b : List Nat} (B : Bytes h v b) (hb : ∀ x ∈ b, x < 256) (hl : b.length ≤ 5000) :
    Tl (eInv env (k + 7000) (.func 15) #[] #[v] h) fun r => (∃ l o, getI b = some l ∧ l.length ≤ 4096 ∧ r.1 = .tuple #[o, .int .i64 0] ∧ Grow h r.2 ∧ OwnB Try.prog h.n r.2 o 1 (i6rows l)) ∨
      (getI b = none ∧ r.1 = .tuple #[.slice none 0 0, .int .i64 4] ∧ Grow h r.2) := by
  rw [F15_call]
  unfold F15
  refine Tl.bind (f34c (k := k + 6997) (Stt.init h) B (by omega)) ?_
  rintro ⟨x14, h1⟩ ⟨br, rv, L', e1, S1, R1, g1⟩
  simp only at e1 S1 g1
  subst e1
  rw [List.nil_append] at S1 R1
  have eo : ((1 : Nat) : Int) = 1 := rfl
  cases b with
  | nil =>
    have T := f35n (k := k + 6976) S1 rfl R1 (n := 1) (by omega) (by omega) (by simp)
    rw [eo] at T
    refine Tl.bind T ?_
    rintro ⟨r, h2⟩ ⟨er, g2⟩
    simp only at er g2
    subst er
    repeat (first | (with_reducible apply Tl.val; focus (simp (disch := omega) only [coreA, Int.reduceBEq, base_Ie] <;> with_reducible rfl)) | (with_reducible first | refine Tl.brT ?_ | refine Tl.brF ?_ | refine Tl.gd_on ?_ | refine Tl.gd3_on ?_) | ((with_reducible first | apply Tl.brC | apply Tl.gdC | apply Tl.gd3C); focus (simp (disch := omega) only [coreA, Int.reduceBEq, base_Ie] <;> with_reducible rfl)))
    refine Tl.alloc' (S1.call g2) ze51 rfl fun b5 h3 S3 _ => ?_
    refine Tl.store' S3 0 rfl sz51 rfl rfl (of_decide_eq_true rfl) fun h4 S4 _ => ?_
    repeat (first | (with_reducible apply Tl.val; focus (simp (disch := omega) only [coreA, Int.reduceBEq, base_Ie] <;> with_reducible rfl)) | (with_reducible first | refine Tl.brT ?_ | refine Tl.brF ?_ | refine Tl.gd_on ?_ | refine Tl.gd3_on ?_) | ((with_reducible first | apply Tl.brC | apply Tl.gdC | apply Tl.gd3C); focus (simp (disch := omega) only [coreA, Int.reduceBEq, base_Ie] <;> with_reducible rfl)))
    exact ⟨_, rfl, .inr ⟨rfl, rfl, S4.grow⟩⟩
  | cons kind r0 =>
    have T := f35c (k := k + 6976) S1 rfl R1 (n := 1) (by omega) (by omega) (by simp) (by omega) hb
    rw [eo] at T
    refine Tl.bind T ?_
    rintro ⟨r, h2⟩ ⟨rv2, er, S2, R2⟩
    simp only at er S2
    subst er
    have S2 : Stt Try.prog h.n h h2 (Rb br rv2 :: L') [] := S2
    have R2 : RV (Rb br rv2 :: L') 0 rv2 r0 := R2
    have ef : ofB ((kind :: r0).take 1) = kind := by simp [ofB]
    rw [ef]
    have hk256 := hb kind (by simp)
    have hb0 : ∀ x ∈ r0, x < 256 := fun x hx => hb x (by simp [hx])
    have hl0 : r0.length < 5000 := by rw [List.length_cons] at hl; omega
    repeat (first | (with_reducible apply Tl.val; focus (simp (disch := omega) only [coreA, Int.reduceBEq, base_Ie] <;> with_reducible rfl)) | (with_reducible first | refine Tl.brT ?_ | refine Tl.brF ?_ | refine Tl.gd_on ?_ | refine Tl.gd3_on ?_) | ((with_reducible first | apply Tl.brC | apply Tl.gdC | apply Tl.gd3C); focus (simp (disch := omega) only [coreA, Int.reduceBEq, base_Ie] <;> with_reducible rfl)))
    refine Tl.alloc' S2 ze51 rfl fun b5 h3 S3 _ => ?_
    have S3 : Stt Try.prog h.n h h3 (Rb br rv2 :: (b5, .cells [.int .u64 0] 51 true) :: L') [] := S3.perm (List.Perm.swap _ _ _)
    refine Tl.store' S3 1 rfl sz51 rfl rfl (of_decide_eq_true rfl) fun h4 S4 _ => ?_
    have S4 : Stt Try.prog h.n h h4 (Rb br rv2 :: Kb b5 kind :: L') [] := S4
    have R4 : RV (Rb br rv2 :: Kb b5 kind :: L') 0 rv2 r0 := R2.ins
    repeat (first | (with_reducible apply Tl.val; focus (simp (disch := omega) only [coreA, Int.reduceBEq, base_Ie] <;> with_reducible rfl)) | (with_reducible first | refine Tl.brT ?_ | refine Tl.brF ?_ | refine Tl.gd_on ?_ | refine Tl.gd3_on ?_) | ((with_reducible first | apply Tl.brC | apply Tl.gdC | apply Tl.gd3C); focus (simp (disch := omega) only [coreA, Int.reduceBEq, base_Ie] <;> with_reducible rfl)))
    refine Tl.bind (f36c (k := k + 6993) S4 rfl R4 (by omega) hb0 (by omega)) ?_
    rintro ⟨r, h5⟩ hr
    unfold getI
    simp only
    rcases hr with ⟨n, r1, rv5, hd, er, S5, R5⟩ | ⟨hd, e, he, er⟩
    · simp only at er S5
      subst er
      have S5 : Stt Try.prog h.n h h5 (Rb br rv5 :: Kb b5 kind :: L') [] := S5
      have R5 : RV (Rb br rv5 :: Kb b5 kind :: L') 0 rv5 r1 := R5
      obtain ⟨dl1, dl2⟩ := dec_len r0 hd
      simp only [hd]
      by_cases qn : n > 4096
      · rw [if_pos qn]
        repeat (first | (with_reducible apply Tl.val; focus (simp (disch := omega) only [coreA, Int.reduceBEq, base_Ie] <;> with_reducible rfl)) | (with_reducible first | refine Tl.brT ?_ | refine Tl.brF ?_ | refine Tl.gd_on ?_ | refine Tl.gd3_on ?_) | ((with_reducible first | apply Tl.brC | apply Tl.gdC | apply Tl.gd3C); focus (simp (disch := omega) only [coreA, Int.reduceBEq, base_Ie] <;> with_reducible rfl)))
        exact ⟨_, rfl, .inr ⟨rfl, rfl, S5.grow⟩⟩
      · rw [if_neg qn]
        repeat (first | (with_reducible apply Tl.val; focus (simp (disch := omega) only [coreA, Int.reduceBEq, base_Ie] <;> with_reducible rfl)) | (with_reducible first | refine Tl.brT ?_ | refine Tl.brF ?_ | refine Tl.gd_on ?_ | refine Tl.gd3_on ?_) | ((with_reducible first | apply Tl.brC | apply Tl.gdC | apply Tl.gd3C); focus (simp (disch := omega) only [coreA, Int.reduceBEq, base_Ie] <;> with_reducible rfl)))
        refine Tl.bind (f24c (k := k + 6998) S5) ?_
        rintro ⟨r, h6⟩ ⟨fb, er, S6⟩
        simp only at er S6
        subst er
        repeat (first | (with_reducible apply Tl.val; focus (simp (disch := omega) only [coreA, Int.reduceBEq, base_Ie] <;> with_reducible rfl)) | (with_reducible first | refine Tl.brT ?_ | refine Tl.brF ?_ | refine Tl.gd_on ?_ | refine Tl.gd3_on ?_) | ((with_reducible first | apply Tl.brC | apply Tl.gdC | apply Tl.gd3C); focus (simp (disch := omega) only [coreA, Int.reduceBEq, base_Ie] <;> with_reducible rfl)))
        refine Tl.bind (f37c (k := k + 6989) S6 (m := 1) rfl) ?_
        rintro ⟨r, h7⟩ ⟨er, S7⟩
        simp only at er S7
        subst er
        by_cases qk : kind = 1 ∨ kind = 2 ∨ kind = 3
        · rw [if_pos qk]
          obtain ⟨i, F, g, N⟩ := fns qk
          have hi3 := N.lt
          rw [N.idx]
          repeat (first | (with_reducible apply Tl.val; focus (simp (disch := omega) only [coreA, Int.reduceBEq, base_Ie] <;> with_reducible rfl)) | (with_reducible first | refine Tl.brT ?_ | refine Tl.brF ?_ | refine Tl.gd_on ?_ | refine Tl.gd3_on ?_) | ((with_reducible first | apply Tl.brC | apply Tl.gdC | apply Tl.gd3C); focus (simp (disch := omega) only [coreA, Int.reduceBEq, base_Ie] <;> with_reducible rfl)))
          refine Tl.bind (f24c (k := k + 6998) S7.drop) ?_
          rintro ⟨r, h8⟩ ⟨fb2, er, S8⟩
          simp only at er S8
          subst er
          have hp : pIndexAddr Try.prog 42 (.slice (some ⟨fb2, 0, none⟩) 3 3) (.int .i64 (i : Int)) = some (.pointer (some ⟨fb2, i * 3, none⟩)) := (indexAddr_slice u42 sz46 (by omega) (by omega)).trans (by simp)
          have hfl : formsC.length = 9 := rfl
          have hrow : h8.row fb2 (i * 3) 3 = some (formR kind F g) := by
            have hg : h8.get fb2 = some (.cells formsC 46 true) := S8.sta.mem.at_ (i := 0) rfl
            rw [row_of hg, if_pos (by rw [hfl]; omega), N.row]
          repeat (first | (with_reducible apply Tl.val; focus (simp (disch := omega) only [coreA, Int.reduceBEq, base_Ie, hp, hrow] <;> with_reducible rfl)) | (with_reducible first | refine Tl.brT ?_ | refine Tl.brF ?_ | refine Tl.gd_on ?_ | refine Tl.gd3_on ?_) | ((with_reducible first | apply Tl.brC | apply Tl.gdC | apply Tl.gd3C); focus (simp (disch := omega) only [coreA, Int.reduceBEq, base_Ie, hp, hrow] <;> with_reducible rfl)))
          refine Tl.alloc' S8.drop ze46 rfl fun b9 h9 S9 g9 => ?_
          refine Tl.store' S9 0 rfl sz46 rfl rfl (of_decide_eq_true rfl) fun h10 S10 _ => ?_
          have S10 : Stt Try.prog h.n h h10 ((b9, .cells (formR kind F g) 46 true) :: Rb br rv5 :: Kb b5 kind :: L') [] := S10
          have S11 : Stt Try.prog h.n h h10 (Rb br rv5 :: (b9, .cells (formR kind F g) 46 true) :: Kb b5 kind :: L') [] := S10.perm (List.Perm.swap _ _ _)
          have R11 : RV (Rb br rv5 :: (b9, .cells (formR kind F g) 46 true) :: Kb b5 kind :: L') 0 rv5 r1 := R5.ins
          have c2 := S10.cell 0 (o := 2) (v := fnV g) rfl rfl
          repeat (first | (with_reducible apply Tl.val; focus (simp (disch := omega) only [coreA, Int.reduceBEq, base_Ie, c2] <;> with_reducible rfl)) | (with_reducible first | refine Tl.brT ?_ | refine Tl.brF ?_ | refine Tl.gd_on ?_ | refine Tl.gd3_on ?_) | ((with_reducible first | apply Tl.brC | apply Tl.gdC | apply Tl.gd3C); focus (simp (disch := omega) only [coreA, Int.reduceBEq, base_Ie, c2] <;> with_reducible rfl)))
          have ec : callV (eInv env (k + 6999)) (fnV g) #[ptr br, .int .i64 n] h10 = eInv env (k + 6999) (.func g) #[] #[ptr br, .int .i64 n] h10 := by
            have : callV (eInv env (k + 6999)) (fnV g) #[ptr br, .int .i64 n] h10 = eInv env (k + 6999) (.func g) #[] (#[] ++ #[ptr br, .int .i64 n]) h10 := rfl
            rw [this]; simp
          rw [ec]
          refine Tl.bind (N.get (k := k + 999) S11 R11 (n := n) (by omega) (by omega) (fun x hx => hb0 x (dl2 x hx))) ?_
          rintro ⟨r, h12⟩ (⟨l, rv12, o, O', hg, er, S12⟩ | ⟨hg, o, e, he, er, S12⟩)
          · simp only at er S12
            subst er
            have hln := kindG_len hg
            rw [hg]
            simp only
            have c3 := S12.cell 1 (o := 1) (v := fnV F) rfl rfl
            repeat (first | (with_reducible apply Tl.val; focus (simp (disch := omega) only [coreA, Int.reduceBEq, base_Ie, c3] <;> with_reducible rfl)) | (with_reducible first | refine Tl.brT ?_ | refine Tl.brF ?_ | refine Tl.gd_on ?_ | refine Tl.gd3_on ?_) | ((with_reducible first | apply Tl.brC | apply Tl.gdC | apply Tl.gd3C); focus (simp (disch := omega) only [coreA, Int.reduceBEq, base_Ie, c3] <;> with_reducible rfl)))
            have ec : callV (eInv env (k + 6999)) (fnV F) #[o] h12 = eInv env (k + 6999) (.func F) #[] #[o] h12 := by
              have : callV (eInv env (k + 6999)) (fnV F) #[o] h12 = eInv env (k + 6999) (.func F) #[] (#[] ++ #[o]) h12 := rfl
              rw [this]; simp
            rw [ec]
            refine Tl.bind (N.put (k := k + 999) (S12.sl1 (f := i6v) 0 rfl) (by omega)) ?_
            rintro ⟨r, h13⟩ ⟨av, er, g13, X⟩
            simp only at er g13 X
            subst er
            have S13 := S12.gain g13 X
            have eq := f39c (k := k + 6998) (S13.sl1 (f := u8v) 0 rfl) (B.grow S13.grow) (formB_256 kind l) hb
            by_cases q : formB kind l = kind :: r0
            · rw [if_pos q]
              rw [decide_eq_true q] at eq
              repeat (first | (with_reducible apply Tl.val; focus (simp (disch := omega) only [coreA, Int.reduceBEq, base_Ie, eq] <;> with_reducible rfl)) | (with_reducible first | refine Tl.brT ?_ | refine Tl.brF ?_ | refine Tl.gd_on ?_ | refine Tl.gd3_on ?_) | ((with_reducible first | apply Tl.brC | apply Tl.gdC | apply Tl.gd3C); focus (simp (disch := omega) only [coreA, Int.reduceBEq, base_Ie, eq] <;> with_reducible rfl)))
              exact ⟨_, rfl, .inl ⟨l, o, rfl, by omega, rfl, S13.grow, S13.ret 1 rfl⟩⟩
            · rw [if_neg q]
              rw [decide_eq_false q] at eq
              repeat (first | (with_reducible apply Tl.val; focus (simp (disch := omega) only [coreA, Int.reduceBEq, base_Ie, eq] <;> with_reducible rfl)) | (with_reducible first | refine Tl.brT ?_ | refine Tl.brF ?_ | refine Tl.gd_on ?_ | refine Tl.gd3_on ?_) | ((with_reducible first | apply Tl.brC | apply Tl.gdC | apply Tl.gd3C); focus (simp (disch := omega) only [coreA, Int.reduceBEq, base_Ie, eq] <;> with_reducible rfl)))
              exact ⟨_, rfl, .inr ⟨rfl, rfl, S13.grow⟩⟩
          · simp only at er S12
            subst er
            rw [hg]
            repeat (first | (with_reducible apply Tl.val; focus (simp (disch := omega) only [coreA, Int.reduceBEq, base_Ie] <;> with_reducible rfl)) | (with_reducible first | refine Tl.brT ?_ | refine Tl.brF ?_ | refine Tl.gd_on ?_ | refine Tl.gd3_on ?_) | ((with_reducible first | apply Tl.brC | apply Tl.gdC | apply Tl.gd3C); focus (simp (disch := omega) only [coreA, Int.reduceBEq, base_Ie] <;> with_reducible rfl)))
            exact ⟨_, rfl, .inr ⟨rfl, rfl, S12.grow⟩⟩
        · rw [if_neg qk]
          have hidx : idxK kind = -1 := by
            unfold idxK
            rw [if_neg (by omega), if_neg (by omega), if_neg (by omega)]
          rw [hidx]
          repeat (first | (with_reducible apply Tl.val; focus (simp (disch := omega) only [coreA, Int.reduceBEq, base_Ie] <;> with_reducible rfl)) | (with_reducible first | refine Tl.brT ?_ | refine Tl.brF ?_ | refine Tl.gd_on ?_ | refine Tl.gd3_on ?_) | ((with_reducible first | apply Tl.brC | apply Tl.gdC | apply Tl.gd3C); focus (simp (disch := omega) only [coreA, Int.reduceBEq, base_Ie] <;> with_reducible rfl)))
          exact ⟨_, rfl, .inr ⟨rfl, rfl, S7.grow⟩⟩
    · cases er
      simp only [hd]
      repeat (first | (with_reducible apply Tl.val; focus (simp (disch := omega) only [coreA, Int.reduceBEq, base_Ie] <;> with_reducible rfl)) | (with_reducible first | refine Tl.brT ?_ | refine Tl.brF ?_ | refine Tl.gd_on ?_ | refine Tl.gd3_on ?_) | ((with_reducible first | apply Tl.brC | apply Tl.gdC | apply Tl.gd3C); focus (simp (disch := omega) only [coreA, Int.reduceBEq, base_Ie] <;> with_reducible rfl)))
      exact ⟨_, rfl, .inr ⟨trivial, rfl, S4.grow⟩⟩
theorem f16c {k : Nat} {h : AH} {v : Value} {b : List Nat} (B : Bytes h v b) (hb : ∀ x ∈ b, x < 256) (hl : b.length ≤ 5000) :
    Tl (eInv env (k + 7001) (.func 16) #[] #[v] h) fun r => r.1 = .tuple #[.int .i64 (((getI b).getD []).length : Nat), .int .i64 (if (getI b).isSome then 0 else 4)] ∧ Grow h r.2 := by
  rw [F16_call]
  unfold F16
  refine Tl.bind (f15c (k := k) B hb hl) ?_
  rintro ⟨r, h1⟩ (⟨l, o, hg, hln, er, g1, X⟩ | ⟨hg, er, g1⟩)
  · simp only at er g1 X
    subst er
    have S1 := (Stt.init h : Stt Try.prog h.n h h [] []).gain g1 X
    have hlen : ∀ h', pLen Try.prog #[25] o h' = some (.int .i64 l.length) := fun h' => Sl1.len (S1.sl1 (f := i6v) 0 rfl) u25
    rw [hg]
    repeat (first | (with_reducible apply Tl.val; focus (simp (disch := omega) only [coreA, Int.reduceBEq, base_Ie, hlen] <;> with_reducible rfl)) | (with_reducible first | refine Tl.brT ?_ | refine Tl.brF ?_ | refine Tl.gd_on ?_ | refine Tl.gd3_on ?_) | ((with_reducible first | apply Tl.brC | apply Tl.gdC | apply Tl.gd3C); focus (simp (disch := omega) only [coreA, Int.reduceBEq, base_Ie, hlen] <;> with_reducible rfl)))
    exact ⟨_, rfl, rfl, g1⟩
  · simp only at er g1
    subst er
    rw [hg]
    have hlen : ∀ h' : AH, pLen Try.prog #[25] (.slice none 0 0) h' = some (.int .i64 0) := fun h' => len_slice u25
    repeat (first | (with_reducible apply Tl.val; focus (simp (disch := omega) only [coreA, Int.reduceBEq, base_Ie, hlen] <;> with_reducible rfl)) | (with_reducible first | refine Tl.brT ?_ | refine Tl.brF ?_ | refine Tl.gd_on ?_ | refine Tl.gd3_on ?_) | ((with_reducible first | apply Tl.brC | apply Tl.gdC | apply Tl.gd3C); focus (simp (disch := omega) only [coreA, Int.reduceBEq, base_Ie, hlen] <;> with_reducible rfl)))
    exact ⟨_, rfl, rfl, g1⟩
end Go.Proofs.Ytcidbbkefpeahaa.Sh
