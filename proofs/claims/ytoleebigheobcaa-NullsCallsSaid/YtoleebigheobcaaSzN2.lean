/- What the functions of the nulls' package come to: 'Runs', gone through. -/
import Derived.Test.YtoleebigheobcaaSzN1
set_option linter.unusedVariables false
set_option linter.unusedSimpArgs false
set_option maxRecDepth 100000
namespace Go.Proofs.Ytoleebigheobcaa.Sh
open Go Go.RowKit Go.Proofs.Ev
theorem base_N2 : type_of% (And.intro @ld3 (And.intro @ld4 (And.intro @ld5 (And.intro @ld22 (And.intro @ld25 (And.intro @ld32 (And.intro (fun ox oy a b => bin_eql_bool (ox := ox) (oy := oy) (a := a) (b := b) u4) ((fun ox oy a b => bin_neq_bool (ox := ox) (oy := oy) (a := a) (b := b) u4))))))))) := And.intro @ld3 (And.intro @ld4 (And.intro @ld5 (And.intro @ld22 (And.intro @ld25 (And.intro @ld32 (And.intro (fun ox oy a b => bin_eql_bool (ox := ox) (oy := oy) (a := a) (b := b) u4) ((fun ox oy a b => bin_neq_bool (ox := ox) (oy := oy) (a := a) (b := b) u4))))))))
def pt (b : Nat) : Value := .pointer (some ⟨b, 0, none⟩)
/-- Runs of the same. -/
def rl (b : Bool) (n : Nat) : List Bool → List (Nat × Bool)
  | [] => [(n, b)]
  | c :: l => if c = b then rl b (n + 1) l else (n, b) :: rl c 1 l
def runsL : List Bool → List (Nat × Bool)
  | [] => []
  | b :: l => rl b 1 l
theorem f48_loop {β : Type} {k : Nat} {Q : β → Prop} {yv v : Value} {l : List Bool} {bp : Nat} {I : List (Nat × Bool) → AH → Prop} (hl : l.length ≤ 2 ^ 40)
    (hI : ∀ rs h, I rs h → h.cell bp 0 = some v ∧ Bools h v l)
    (hr : ∀ rs m b hh, rs.length < l.length → I rs hh → Tl (callV (eInv env k) yv #[.int .i64 ((m : Nat) : Int), .bool b] hh) fun r => r.1 = .bool true ∧ I (rs ++ [(m, b)]) r.2)
    {ke0 kr : Value → Value → Value → Value → Value → Value → Value → AH → Option β} (n : Nat) :
    ∀ {i j frm : Nat} {rs : List (Nat × Bool)} {h : AH}, i + n = l.length → n < j → frm ≤ i → rs.length ≤ i → I rs h → (n = 0 → rs = runsL l) → (∀ x, l[i]? = some x → rs ++ rl x (i + 1 - frm) (l.drop (i + 1)) = runsL l) →
      (∀ h' y1 y2 y3 y4 y5 y6 y7, I (runsL l) h' → Tl (ke0 y1 y2 y3 y4 y5 y6 y7 h') Q) →
      Tl (F48_lrrrl (eInv env k) k j yv (pt bp) (.int .i64 frm) v (.int .i64 l.length) (.int .i64 i) h ke0 kr) Q := by
  induction n with
  | zero =>
    intro i j frm rs h hi hj hf hrs A h0 hx hk
    obtain ⟨j, rfl⟩ : ∃ q, j = q + 1 := ⟨j - 1, by omega⟩
    simp only [F48_lrrrl]
    repeat (first | (with_reducible apply Tl.val; focus (simp (disch := omega) only [coreA, Int.reduceBEq, base_N2] <;> with_reducible rfl)) | (with_reducible first | refine Tl.brT ?_ | refine Tl.brF ?_ | refine Tl.gd_on ?_ | refine Tl.gd3_on ?_) | ((with_reducible first | apply Tl.brC | apply Tl.gdC | apply Tl.gd3C); focus (simp (disch := omega) only [coreA, Int.reduceBEq, base_N2] <;> with_reducible rfl)))
    rw [h0 rfl] at A
    exact hk _ _ _ _ _ _ _ _ A
  | succ n ih =>
    intro i j frm rs h hi hj hf hrs A h0 hx hk
    obtain ⟨j, rfl⟩ : ∃ q, j = q + 1 := ⟨j - 1, by omega⟩
    obtain ⟨x, ex⟩ : ∃ x, l[i]? = some x := ⟨_, List.getElem?_eq_getElem (by omega)⟩
    obtain ⟨c1, S⟩ := hI rs h A
    obtain ⟨b, o, hp, hc⟩ := Sl1.at_ S (t := 22) (k := .i64) ex u22 sz4
    have hc := hc h (Grow.refl _)
    have hlen : ∀ h', pLen Try.prog #[22] v h' = some (.int .i64 l.length) := fun h' => Sl1.len S u22
    have hx1 := hx x ex
    have e : (i : Int) + 1 = ((i + 1 : Nat) : Int) := by omega
    have em : ((i + 1 : Nat) : Int) - (frm : Int) = ((i + 1 - frm : Nat) : Int) := by omega
    unfold pt
    simp only [F48_lrrrl]
    unfold F48_lrrllrrrl
    by_cases q : i + 1 < l.length
    · obtain ⟨y, ey⟩ : ∃ x, l[i + 1]? = some x := ⟨_, List.getElem?_eq_getElem q⟩
      obtain ⟨b2, o2, hp2, hc2⟩ := Sl1.at_ S (t := 22) (k := .i64) ey u22 sz4
      have hc2 := hc2 h (Grow.refl _)
      rw [← e] at hp2
      rw [drop_cons ey] at hx1
      by_cases exy : y = x
      · subst exy
        repeat (first | (with_reducible apply Tl.val; focus (simp (disch := omega) only [coreA, Int.reduceBEq, base_N2, hp, hc, bv, c1, hlen, hp2, hc2] <;> with_reducible rfl)) | (with_reducible first | refine Tl.brT ?_ | refine Tl.brF ?_ | refine Tl.gd_on ?_ | refine Tl.gd3_on ?_) | ((with_reducible first | apply Tl.brC | apply Tl.gdC | apply Tl.gd3C); focus (simp (disch := omega) only [coreA, Int.reduceBEq, base_N2, hp, hc, bv, c1, hlen, hp2, hc2] <;> with_reducible rfl)))
        rw [e]
        refine ih (rs := rs) (by omega) (by omega) (by omega) (by omega) A (fun q => by omega) (fun x' hx' => ?_) hk
        rw [ey] at hx'
        cases hx'
        rw [← hx1, rl, if_pos rfl, show i + 1 + 1 - frm = i + 1 - frm + 1 by omega]
      · have en : (y == x) = false := by simpa using exy
        repeat (first | (with_reducible apply Tl.val; focus (simp (disch := omega) only [coreA, Int.reduceBEq, base_N2, hp, hc, bv, c1, hlen, hp2, hc2, en] <;> with_reducible rfl)) | (with_reducible first | refine Tl.brT ?_ | refine Tl.brF ?_ | refine Tl.gd_on ?_ | refine Tl.gd3_on ?_) | ((with_reducible first | apply Tl.brC | apply Tl.gdC | apply Tl.gd3C); focus (simp (disch := omega) only [coreA, Int.reduceBEq, base_N2, hp, hc, bv, c1, hlen, hp2, hc2, en] <;> with_reducible rfl)))
        rw [e, em]
        refine Tl.bind (hr rs (i + 1 - frm) x h (by omega) A) ?_
        rintro ⟨r1, h1⟩ ⟨e1, A1⟩
        simp only at e1 A1
        subst e1
        repeat (first | (with_reducible apply Tl.val; focus (simp (disch := omega) only [coreA, Int.reduceBEq, base_N2] <;> with_reducible rfl)) | (with_reducible first | refine Tl.brT ?_ | refine Tl.brF ?_ | refine Tl.gd_on ?_ | refine Tl.gd3_on ?_) | ((with_reducible first | apply Tl.brC | apply Tl.gdC | apply Tl.gd3C); focus (simp (disch := omega) only [coreA, Int.reduceBEq, base_N2] <;> with_reducible rfl)))
        rw [e]
        refine ih (rs := rs ++ [(i + 1 - frm, x)]) (by omega) (by omega) (by omega) (by simp; omega) A1 (fun q => by omega) (fun x' hx' => ?_) hk
        rw [ey] at hx'
        cases hx'
        rw [← hx1, rl, if_neg exy, show i + 1 + 1 - (i + 1) = 1 by omega]
        simp
    · repeat (first | (with_reducible apply Tl.val; focus (simp (disch := omega) only [coreA, Int.reduceBEq, base_N2, hp, hc, bv, c1, hlen] <;> with_reducible rfl)) | (with_reducible first | refine Tl.brT ?_ | refine Tl.brF ?_ | refine Tl.gd_on ?_ | refine Tl.gd3_on ?_) | ((with_reducible first | apply Tl.brC | apply Tl.gdC | apply Tl.gd3C); focus (simp (disch := omega) only [coreA, Int.reduceBEq, base_N2, hp, hc, bv, c1, hlen] <;> with_reducible rfl)))
      rw [e, em]
      refine Tl.bind (hr rs (i + 1 - frm) x h (by omega) A) ?_
      rintro ⟨r1, h1⟩ ⟨e1, A1⟩
      simp only at e1 A1
      subst e1
      repeat (first | (with_reducible apply Tl.val; focus (simp (disch := omega) only [coreA, Int.reduceBEq, base_N2] <;> with_reducible rfl)) | (with_reducible first | refine Tl.brT ?_ | refine Tl.brF ?_ | refine Tl.gd_on ?_ | refine Tl.gd3_on ?_) | ((with_reducible first | apply Tl.brC | apply Tl.gdC | apply Tl.gd3C); focus (simp (disch := omega) only [coreA, Int.reduceBEq, base_N2] <;> with_reducible rfl)))
      rw [e]
      rw [List.drop_eq_nil_of_le (by omega), rl] at hx1
      refine ih (rs := rs ++ [(i + 1 - frm, x)]) (by omega) (by omega) (by omega) (by simp; omega) A1 (fun q => hx1) (fun x' hx' => ?_) hk
      rw [List.getElem?_eq_none (by omega)] at hx'
      cases hx'
theorem f48c {k : Nat} {yv v : Value} {l : List Bool} {bp : Nat} {I : List (Nat × Bool) → AH → Prop} (hl : l.length ≤ 2 ^ 40) (hkl : l.length < k)
    (hI : ∀ rs h, I rs h → h.cell bp 0 = some v ∧ Bools h v l)
    (hr : ∀ rs m b hh, rs.length < l.length → I rs hh → Tl (callV (eInv env k) yv #[.int .i64 ((m : Nat) : Int), .bool b] hh) fun r => r.1 = .bool true ∧ I (rs ++ [(m, b)]) r.2) {h : AH} (A : I [] h) :
    Tl (eInv env (k + 1) (.func 48) #[pt bp] #[yv] h) fun r => I (runsL l) r.2 := by
  rw [inv_cap (E := env) (f := 48) (by kernel_rfl), show ((#[yv] : Array Value) ++ #[pt bp]) = #[yv, pt bp] by simp, F48_eq]
  unfold F48
  obtain ⟨c1, S⟩ := hI [] h A
  have hlen : ∀ h', pLen Try.prog #[22] v h' = some (.int .i64 l.length) := fun h' => Sl1.len S u22
  unfold pt
  repeat (first | (with_reducible apply Tl.val; focus (simp (disch := omega) only [coreA, Int.reduceBEq, base_N2, c1, hlen] <;> with_reducible rfl)) | (with_reducible first | refine Tl.brT ?_ | refine Tl.brF ?_ | refine Tl.gd_on ?_ | refine Tl.gd3_on ?_) | ((with_reducible first | apply Tl.brC | apply Tl.gdC | apply Tl.gd3C); focus (simp (disch := omega) only [coreA, Int.reduceBEq, base_N2, c1, hlen] <;> with_reducible rfl)))
  refine f48_loop hl hI hr l.length (i := 0) (frm := 0) (rs := []) (by omega) (by omega) (by omega) (by simp) A (fun q => ?_) (fun x hx => ?_) fun h' y1 y2 y3 y4 y5 y6 y7 A' => ⟨_, rfl, A'⟩
  · have : l = [] := List.length_eq_zero_iff.1 q
    subst this
    rfl
  · cases l with
    | nil => simp at hx
    | cons a l => simp at hx; subst hx; simp [runsL]
def runFn (b : Nat) : Value := .func (.func 48) #[] #[pt b]
theorem mf48 (b : Nat) : pMakeFunc (Go.Fn.func 48) #[] #[pt b] = some (runFn b) := by kernel_rfl
theorem f24c {k : Nat} {h : AH} {v : Value} (hkn : kn v = true) (hcs : v.cells.toList = [v]) : Tl (eInv env (k + 1) (.func 24) #[] #[v] h) fun r => ∃ b, r.1 = runFn b ∧ Stt Try.prog h.n h r.2 [(b, .cells [v] 22 true)] [] := by
  rw [F24_call]
  unfold F24
  refine Tl.box' (Stt.init h) hkn (by kernel_rfl) fun b h1 S1 _ => ?_
  have := mf48 b
  unfold pt at this
  repeat (first | (with_reducible apply Tl.val; focus (simp (disch := omega) only [coreA, Int.reduceBEq, base_N2, this] <;> with_reducible rfl)) | (with_reducible first | refine Tl.brT ?_ | refine Tl.brF ?_ | refine Tl.gd_on ?_ | refine Tl.gd3_on ?_) | ((with_reducible first | apply Tl.brC | apply Tl.gdC | apply Tl.gd3C); focus (simp (disch := omega) only [coreA, Int.reduceBEq, base_N2, this] <;> with_reducible rfl)))
  rw [hcs] at S1
  exact ⟨_, rfl, b, rfl, S1⟩
theorem fneq46 {b : Nat} {y z : Operand} : pBin Try.prog .eql 46 y z (runFn b) .nilFunc = some (.bool false) := by kernel_rfl
noncomputable def lp11 (st : LoopState) (b1 b2 b3 b4 b6 b7 : Nat) (x14 : Value) : AO := .loop st none 11 (act 32 [(1, pt b1), (2, pt b2), (3, pt b3), (4, pt b4), (6, pt b6), (7, pt b7), (14, x14)]).tmps (psOf (cl (cr (cl (cr (cr (cr (cr (cr c11))))))))) (cl (cl (cr (cl (cr (cr (cr (cr (cr c11))))))))) (cr (cl (cr (cl (cr (cr (cr (cr (cr c11)))))))))
noncomputable def L11 (lo : AO) (bl bR b1 b2 b3 b4 b6 b7 : Nat) (v nv sv : Value) : List (Nat × AO) :=
  [(bl, lo), (b7, .cells [sv] 22 true), (b6, .cells [nv] 25 true), (bR, .cells [v] 22 true), (b4, .cells [.bool false] 4 true), (b3, .cells [.slice none 0 0] 22 true), (b2, .cells [.slice none 0 0] 25 true), (b1, .cells [v] 22 true)]
def lens (rs : List (Nat × Bool)) : List Int := rs.map fun r => (r.1 : Int)
def whats (rs : List (Nat × Bool)) : List Bool := rs.map (·.2)
theorem r11 {k : Nat} {h0 h : AH} {n0 bl bR b1 b2 b3 b4 b6 b7 m : Nat} {x14 v nv sv : Value} {l : List Bool} {rs : List (Nat × Bool)} {b : Bool} (B : Bools h v l) (hl : l.length ≤ 2 ^ 30)
    (S : Stt Try.prog n0 h0 h (L11 (lp11 .ready b1 b2 b3 b4 b6 b7 x14) bl bR b1 b2 b3 b4 b6 b7 v nv sv) [(nv, 1, irows (lens rs)), (sv, 1, brows (whats rs))]) (hrs : rs.length < l.length) :
    Tl (callV (eInv env (k + 1)) (.func (.yield bl) #[] #[]) #[.int .i64 (m : Int), .bool b] h) fun r => r.1 = .bool true ∧ ∃ nv' sv', Stt Try.prog n0 h0 r.2 (L11 (lp11 .ready b1 b2 b3 b4 b6 b7 x14) bl bR b1 b2 b3 b4 b6 b7 v nv' sv') [(nv', 1, irows (lens (rs ++ [(m, b)]))), (sv', 1, brows (whats (rs ++ [(m, b)])))] := by
  have hl0 := S.sta.mem.at_ (i := 0) rfl
  have e : callV (eInv env (k + 1)) (.func (.yield bl) #[] #[]) #[.int .i64 (m : Int), .bool b] h = eInv env (k + 1) (.yield bl) #[] (#[] ++ #[.int .i64 (m : Int), .bool b]) h := rfl
  rw [e, show ((#[] : Array Value) ++ #[.int .i64 (m : Int), .bool b]) = #[.int .i64 (m : Int), .bool b] by simp, inv_yield, R11_lrlrrrrr_eq hl0]
  unfold R11_lrlrrrrr
  refine Tl.rdBegin' S 0 rfl fun h1 S1 => ?_
  have c6 := S1.cell 2 (o := 0) rfl rfl
  have c7 := S1.cell 1 (o := 0) rfl rfl
  have c1 := S1.cell 7 (o := 0) rfl rfl
  have hlv : ∀ h', pLen Try.prog #[22] v h' = some (.int .i64 l.length) := fun h' => Sl1.len B u22
  have hln : ∀ h', pLen Try.prog #[25] nv h' = some (.int .i64 rs.length) := fun h' => by
    have := SlV.len (S.slV 0 rfl) u25 (h' := h')
    simpa [irows, lens] using this
  unfold pt
  repeat (first | (with_reducible apply Tl.val; focus (simp (disch := omega) only [coreA, Int.reduceBEq, base_N2, c6, c7, c1, hlv, hln, bs25, bs22] <;> with_reducible rfl)) | (with_reducible first | refine Tl.brT ?_ | refine Tl.brF ?_ | refine Tl.gd_on ?_ | refine Tl.gd3_on ?_) | ((with_reducible first | apply Tl.brC | apply Tl.gdC | apply Tl.gd3C); focus (simp (disch := omega) only [coreA, Int.reduceBEq, base_N2, c6, c7, c1, hlv, hln, bs25, bs22] <;> with_reducible rfl)))
  have S2 := S1.alloc (.cells [.int .i64 (m : Int)] 3 true)
  have S3 := S2.alloc (.cells [.bool b] 4 true)
  have d6 := S3.cell 4 (o := 0) rfl rfl
  have d7 := S3.cell 3 (o := 0) rfl rfl
  have c6a := S2.cell 3 (o := 0) rfl rfl
  have c7a := S2.cell 2 (o := 0) rfl rfl
  repeat (first | (with_reducible apply Tl.val; focus (simp (disch := omega) only [coreA, Int.reduceBEq, base_N2, d6] <;> with_reducible rfl)) | (with_reducible first | refine Tl.brT ?_ | refine Tl.brF ?_ | refine Tl.gd_on ?_ | refine Tl.gd3_on ?_) | ((with_reducible first | apply Tl.brC | apply Tl.gdC | apply Tl.gd3C); focus (simp (disch := omega) only [coreA, Int.reduceBEq, base_N2, d6] <;> with_reducible rfl)))
  refine Tl.append' S3 0 rfl app25 (S3.lit 1 rfl rfl) rfl (by simp [irows, lens]; omega) fun nv' h4 S4 => ?_
  have c7b := S4.cell 3 (o := 0) rfl rfl
  repeat (first | (with_reducible apply Tl.val; focus (simp (disch := omega) only [coreA, Int.reduceBEq, base_N2, c7b] <;> with_reducible rfl)) | (with_reducible first | refine Tl.brT ?_ | refine Tl.brF ?_ | refine Tl.gd_on ?_ | refine Tl.gd3_on ?_) | ((with_reducible first | apply Tl.brC | apply Tl.gdC | apply Tl.gd3C); focus (simp (disch := omega) only [coreA, Int.reduceBEq, base_N2, c7b] <;> with_reducible rfl)))
  refine Tl.append' S4 1 rfl app22 (S4.lit 0 rfl rfl) rfl (by simp [brows, whats]; omega) fun sv' h5 S5 => ?_
  have N := slV_cells (S5.slV 0 rfl)
  have V := slV_cells (S5.slV 1 rfl)
  refine Tl.store' S5.drop.drop 2 rfl sz25 N.2.1 (by rw [N.1]; simp [N.2.2.1]) (of_decide_eq_true rfl) fun h6 S6 _ => ?_
  refine Tl.store' S6 1 rfl sz22 V.2.1 (by rw [V.1]; simp [V.2.2.1]) (of_decide_eq_true rfl) fun h7 S7 _ => ?_
  rw [N.1, V.1] at S7
  with_reducible refine Tl.chk ?_ ?_
  · simp only [ld22, ld25, c6, c7, d6, d7, c6a, c7a, c7b, sameO_some, slV_same (S.slV 0 rfl), slV_same (S.slV 1 rfl), Bool.and_self, Bool.not_true, Bool.or_true, Bool.true_and, Bool.false_or]
  obtain ⟨h8, q1, S8⟩ := S7.rdEnd (x := .normal) 0 rfl
  refine ⟨_, q1, rfl, nv', sv', ?_⟩
  have e1 : irows (lens (rs ++ [(m, b)])) = irows (lens rs) ++ [[.int .i64 (m : Int)]] := by simp [irows, lens, iv]
  have e2 : brows (whats (rs ++ [(m, b)])) = brows (whats rs) ++ [[.bool b]] := by simp [brows, whats, bv]
  rw [e1, e2]
  exact S8
/-- 'runs'. -/
theorem f11c {k : Nat} {h : AH} {v : Value} {l : List Bool} (B : Bools h v l) (hl : l.length ≤ 2 ^ 30) (hkl : l.length < k) :
    Tl (eInv env (k + 20) (.func 11) #[] #[v] h) fun r => ∃ nv sv, r.1 = .tuple #[nv, sv, .bool true] ∧ Stt Try.prog h.n h r.2 [] [(nv, 1, irows (lens (runsL l))), (sv, 1, brows (whats (runsL l)))] := by
  rw [F11_call]
  unfold F11
  have K := slV_cells B
  refine Tl.box' (Stt.init h) K.2.2.2 (by kernel_rfl) fun b1 h1 S1 _ => ?_
  rw [K.1] at S1
  refine Tl.alloc' S1 ze25 rfl fun b2 h2 S2 _ => ?_
  refine Tl.alloc' S2 ze22 rfl fun b3 h3 S3 _ => ?_
  refine Tl.alloc' S3 ze4 rfl fun b4 h4 S4 _ => ?_
  have c1 := S4.cell 3 (o := 0) rfl rfl
  repeat (first | (with_reducible apply Tl.val; focus (simp (disch := omega) only [coreA, Int.reduceBEq, base_N2, c1] <;> with_reducible rfl)) | (with_reducible first | refine Tl.brT ?_ | refine Tl.brF ?_ | refine Tl.gd_on ?_ | refine Tl.gd3_on ?_) | ((with_reducible first | apply Tl.brC | apply Tl.gdC | apply Tl.gd3C); focus (simp (disch := omega) only [coreA, Int.reduceBEq, base_N2, c1] <;> with_reducible rfl)))
  refine Tl.bind (f24c (k := k + 18) (h := h4) K.2.2.2 K.1) ?_
  rintro ⟨x11, h5⟩ ⟨bR, e11, S5⟩
  simp only at e11 S5
  subst e11
  have S5 := S4.join S5
  repeat (first | (with_reducible apply Tl.val; focus (simp (disch := omega) only [coreA, Int.reduceBEq, base_N2, fneq46] <;> with_reducible rfl)) | (with_reducible first | refine Tl.brT ?_ | refine Tl.brF ?_ | refine Tl.gd_on ?_ | refine Tl.gd3_on ?_) | ((with_reducible first | apply Tl.brC | apply Tl.gdC | apply Tl.gd3C); focus (simp (disch := omega) only [coreA, Int.reduceBEq, base_N2, fneq46] <;> with_reducible rfl)))
  refine Tl.alloc' S5 ze25 rfl fun b6 h6 S6 _ => ?_
  refine Tl.alloc' S6 ze22 rfl fun b7 h7 S7 _ => ?_
  unfold F11_rlrrrrr
  have S7 : Stt Try.prog h.n h h7 _ [] := S7
  have S8 := (S7.nil 1).nil 1
  refine Tl.range' S8 (fun L' O' => ∃ nv sv, L' = (L11 (.dead) 0 bR b1 b2 b3 b4 b6 b7 v nv sv).tail ∧ O' = [(nv, 1, irows (lens (runsL l))), (sv, 1, brows (whats (runsL l)))]) (by kernel_rfl) ?_ ?_
  · intro h8 bl T
    rw [show ((#[] : Array Value) ++ #[.func (.yield bl) #[] #[]]) = #[.func (.yield bl) #[] #[]] by simp]
    let I : List (Nat × Bool) → AH → Prop := fun rs hh => ∃ nv sv, Stt Try.prog h.n h hh (L11 (lp11 .ready b1 b2 b3 b4 b6 b7 (runFn bR)) bl bR b1 b2 b3 b4 b6 b7 v nv sv) [(nv, 1, irows (lens rs)), (sv, 1, brows (whats rs))]
    have hI : ∀ rs hh, I rs hh → hh.cell bR 0 = some v ∧ Bools hh v l := by
      rintro rs hh ⟨nv, sv, S⟩
      exact ⟨S.cell 3 rfl rfl, B.grow S.grow⟩
    obtain ⟨r, q1, nv, sv, S⟩ := f48c (k := k + 18) (yv := .func (.yield bl) #[] #[]) (I := I) (by omega) (by omega) hI (fun rs m b hh hlt A => by
      obtain ⟨nv, sv, S⟩ := A
      obtain ⟨r, e1, e2, nv', sv', S'⟩ := r11 (k := k + 17) (m := m) (b := b) (B.grow S.grow) hl S hlt
      exact ⟨r, e1, e2, nv', sv', S'⟩) (h := h8) ⟨_, _, T⟩
    exact ⟨r, q1, _, _, _, _, _, _, _, _, by simp, S, nv, sv, rfl, rfl⟩
  · rintro h8 L' O' S ⟨nv, sv, rfl, rfl⟩
    have S : Stt Try.prog h.n h h8 [(b7, .cells [sv] 22 true), (b6, .cells [nv] 25 true), (bR, .cells [v] 22 true), (b4, .cells [.bool false] 4 true), (b3, .cells [.slice none 0 0] 22 true), (b2, .cells [.slice none 0 0] 25 true), (b1, .cells [v] 22 true)] _ := S
    have c6 := S.cell 1 (o := 0) rfl rfl
    have c7 := S.cell 0 (o := 0) rfl rfl
    have N := slV_cells (S.slV 0 rfl)
    have V := slV_cells (S.slV 1 rfl)
    show Tl (Ev.bnd _ _) _
    repeat (first | (with_reducible apply Tl.val; focus (simp (disch := omega) only [coreA, Int.reduceBEq, base_N2, c6, c7] <;> with_reducible rfl)) | (with_reducible first | refine Tl.brT ?_ | refine Tl.brF ?_ | refine Tl.gd_on ?_ | refine Tl.gd3_on ?_) | ((with_reducible first | apply Tl.brC | apply Tl.gdC | apply Tl.gd3C); focus (simp (disch := omega) only [coreA, Int.reduceBEq, base_N2, c6, c7] <;> with_reducible rfl)))
    refine Tl.store' S 5 rfl sz25 N.2.1 (by rw [N.1]; simp [N.2.2.1]) (of_decide_eq_true rfl) fun h9 T9 _ => ?_
    have c79 := T9.cell 0 (o := 0) rfl rfl
    refine Tl.store' T9 4 rfl sz22 V.2.1 (by rw [V.1]; simp [V.2.2.1]) (of_decide_eq_true rfl) fun h10 T10 _ => ?_
    refine Tl.store' T10 3 rfl sz4 rfl rfl (of_decide_eq_true rfl) fun h11 T11 _ => ?_
    rw [N.1, V.1] at T11
    with_reducible refine Tl.chk ?_ ?_
    · simp only [ld22, ld25, c7, c79, sameO_some, slV_same (S.slV 1 rfl), Bool.and_self, Bool.not_true, Bool.or_true, Bool.true_and, Bool.false_or]
    have r2 := T11.cell 5 (o := 0) rfl rfl
    have r3 := T11.cell 4 (o := 0) rfl rfl
    have r4 := T11.cell 3 (o := 0) rfl rfl
    repeat (first | (with_reducible apply Tl.val; focus (simp (disch := omega) only [coreA, Int.reduceBEq, base_N2, r2, r3, r4] <;> with_reducible rfl)) | (with_reducible first | refine Tl.brT ?_ | refine Tl.brF ?_ | refine Tl.gd_on ?_ | refine Tl.gd3_on ?_) | ((with_reducible first | apply Tl.brC | apply Tl.gdC | apply Tl.gd3C); focus (simp (disch := omega) only [coreA, Int.reduceBEq, base_N2, r2, r3, r4] <;> with_reducible rfl)))
    exact ⟨_, rfl, nv, sv, rfl, T11.drop.drop.drop.drop.drop.drop.drop⟩
end Go.Proofs.Ytoleebigheobcaa.Sh
