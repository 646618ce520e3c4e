/- 'NullsSpread' comes to true. -/
import Derived.Test.YtoleebigheobcaaSzN2
set_option linter.unusedVariables false
set_option linter.unusedSimpArgs false
set_option maxRecDepth 100000
namespace Go.Proofs.Ytoleebigheobcaa.Sh
open Go Go.RowKit Go.Proofs.Ev

/-! ### Runs -/
def expand (rs : List (Nat × Bool)) : List Bool := rs.flatMap fun r => List.replicate r.1 r.2
theorem rl_expand (l : List Bool) : ∀ (b : Bool) (n : Nat), expand (rl b n l) = List.replicate n b ++ l := by
  induction l with
  | nil => intro b n; simp [rl, expand]
  | cons c l ih =>
    intro b n
    unfold rl
    split
    · rename_i h
      subst h
      rw [ih, List.replicate_succ', List.append_assoc]
      rfl
    · have := ih c 1
      unfold expand at this ⊢
      rw [List.flatMap_cons, this]
      rfl
theorem runsL_expand (l : List Bool) : expand (runsL l) = l := by
  cases l with
  | nil => rfl
  | cons b l => exact rl_expand l b 1
theorem rl_pos (l : List Bool) : ∀ (b : Bool) (n : Nat), 1 ≤ n → ∀ r ∈ rl b n l, 1 ≤ r.1 := by
  induction l with
  | nil => intro b n h r hr; simp [rl] at hr; subst hr; exact h
  | cons c l ih =>
    intro b n h r hr
    unfold rl at hr
    split at hr
    · exact ih b (n + 1) (by omega) r hr
    · rcases List.mem_cons.1 hr with rfl | hr
      · exact h
      · exact ih c 1 (by omega) r hr
theorem runsL_pos (l : List Bool) : ∀ r ∈ runsL l, 1 ≤ r.1 := by
  cases l with
  | nil => intro r hr; cases hr
  | cons b l => exact rl_pos l b 1 (by omega)
theorem expand_le : ∀ (rs : List (Nat × Bool)), ∀ r ∈ rs, r.1 ≤ (expand rs).length := by
  intro rs
  induction rs with
  | nil => intro r hr; cases hr
  | cons a rs ih =>
    intro r hr
    have e : (expand (a :: rs)).length = a.1 + (expand rs).length := by simp [expand]
    rw [e]
    rcases List.mem_cons.1 hr with rfl | hr
    · omega
    · have := ih r hr; omega
theorem rl_head (l : List Bool) : ∀ (b : Bool) (n : Nat), ∃ m t, rl b n l = (m, b) :: t := by
  induction l with
  | nil => intro b n; exact ⟨_, _, rfl⟩
  | cons c l ih =>
    intro b n
    unfold rl
    split
    · exact ih b (n + 1)
    · exact ⟨_, _, rfl⟩
theorem rl_apart (l : List Bool) : ∀ (b : Bool) (n : Nat) (i : Nat) (x y : Nat × Bool), (rl b n l)[i]? = some x → (rl b n l)[i + 1]? = some y → x.2 ≠ y.2 := by
  induction l with
  | nil => intro b n i x y h1 h2; simp [rl] at h2
  | cons c l ih =>
    intro b n i x y h1 h2
    unfold rl at h1 h2
    split at h1
    · rename_i h
      rw [if_pos h] at h2
      exact ih b (n + 1) i x y h1 h2
    · rename_i h
      rw [if_neg h] at h2
      cases i with
      | zero =>
        obtain ⟨m, t, e⟩ := rl_head l c 1
        simp only [List.getElem?_cons_zero, Option.some.injEq, Nat.zero_add, List.getElem?_cons_succ, e] at h1 h2
        subst h1; subst h2
        exact fun q => h q.symm
      | succ i => exact ih c 1 i x y (by simpa using h1) (by simpa using h2)
theorem runsL_apart (l : List Bool) (i : Nat) (x y : Nat × Bool) (h1 : (runsL l)[i]? = some x) (h2 : (runsL l)[i + 1]? = some y) : x.2 ≠ y.2 := by
  cases l with
  | nil => simp [runsL] at h1
  | cons b l => exact rl_apart l b 1 i x y h1 h2
/-! ### The walk -/
theorem f3_loop1 {β : Type} {k : Nat} {Q : β → Prop} {h : AH} {v sv : Value} {l : List Bool} {s : List Int} (S : Bools h v l) (T : Nums h sv s) (hl : l.length ≤ 300) (hs : s.length = l.length)
    {ke0 : Value → Value → Value → Value → Value → AH → Option β} {kr : Value → AH → Option β} (n : Nat) :
    ∀ {i j c : Nat}, i + n = l.length → n < j → c ≤ i → s.drop i = spreadL c (l.drop i) → (∀ y y' y'', Tl (ke0 v sv y y' y'' h) Q) →
      Tl (F3_lrlrrrrrrr (eInv env k) k j v sv (.int .i64 c) (.int .i64 i) h ke0 kr) Q := by
  have hlen : ∀ h', pLen Try.prog #[22] v h' = some (.int .i64 l.length) := fun h' => Sl1.len S u22
  induction n with
  | zero =>
    intro i j c hi hj hc hd hk
    obtain ⟨j, rfl⟩ : ∃ q, j = q + 1 := ⟨j - 1, by omega⟩
    simp only [F3_lrlrrrrrrr]
    repeat (first | (with_reducible apply Tl.val; focus (simp (disch := omega) only [coreA, goInt, Option.map_some, Nat.zero_add, Bool.not_true, Bool.not_false, Bool.true_and, Bool.false_and, Bool.and_true, Bool.and_false, cond_true, cond_false, beq_self_eq_true, Int.reduceBEq, decide_true, decide_false, Bool.or_true, Bool.or_false, Bool.true_or, Bool.false_or, ld3, ld4, ld5, ld22, ld25, ld32, bin_eql_bool u4, bin_neq_bool u4, hlen] <;> with_reducible rfl)) | with_reducible refine Tl.brT ?_ | with_reducible refine Tl.brF ?_ | with_reducible refine Tl.gd_on ?_ | with_reducible refine Tl.gd3_on ?_ | (with_reducible refine Tl.brT' ?_ ?_; focus (simp (disch := omega) only [coreA, goInt, Option.map_some, Nat.zero_add, Bool.not_true, Bool.not_false, Bool.true_and, Bool.false_and, Bool.and_true, Bool.and_false, cond_true, cond_false, beq_self_eq_true, Int.reduceBEq, decide_true, decide_false, Bool.or_true, Bool.or_false, Bool.true_or, Bool.false_or, ld3, ld4, ld5, ld22, ld25, ld32, bin_eql_bool u4, bin_neq_bool u4, hlen]; done)) | (with_reducible refine Tl.brF' ?_ ?_; focus (simp (disch := omega) only [coreA, goInt, Option.map_some, Nat.zero_add, Bool.not_true, Bool.not_false, Bool.true_and, Bool.false_and, Bool.and_true, Bool.and_false, cond_true, cond_false, beq_self_eq_true, Int.reduceBEq, decide_true, decide_false, Bool.or_true, Bool.or_false, Bool.true_or, Bool.false_or, ld3, ld4, ld5, ld22, ld25, ld32, bin_eql_bool u4, bin_neq_bool u4, hlen]; done)) | (with_reducible refine Tl.gd_on' ?_ ?_; focus (simp (disch := omega) only [coreA, goInt, Option.map_some, Nat.zero_add, Bool.not_true, Bool.not_false, Bool.true_and, Bool.false_and, Bool.and_true, Bool.and_false, cond_true, cond_false, beq_self_eq_true, Int.reduceBEq, decide_true, decide_false, Bool.or_true, Bool.or_false, Bool.true_or, Bool.false_or, ld3, ld4, ld5, ld22, ld25, ld32, bin_eql_bool u4, bin_neq_bool u4, hlen]; done)) | (with_reducible refine Tl.gd3_on' ?_ ?_; focus (simp (disch := omega) only [coreA, goInt, Option.map_some, Nat.zero_add, Bool.not_true, Bool.not_false, Bool.true_and, Bool.false_and, Bool.and_true, Bool.and_false, cond_true, cond_false, beq_self_eq_true, Int.reduceBEq, decide_true, decide_false, Bool.or_true, Bool.or_false, Bool.true_or, Bool.false_or, ld3, ld4, ld5, ld22, ld25, ld32, bin_eql_bool u4, bin_neq_bool u4, hlen]; done)))
    exact hk _ _ _
  | succ n ih =>
    intro i j c hi hj hc hd hk
    obtain ⟨j, rfl⟩ : ∃ q, j = q + 1 := ⟨j - 1, by omega⟩
    obtain ⟨x, hx⟩ : ∃ x, l[i]? = some x := ⟨_, List.getElem?_eq_getElem (by omega)⟩
    obtain ⟨z, hz⟩ : ∃ x, s[i]? = some x := ⟨_, List.getElem?_eq_getElem (by omega)⟩
    obtain ⟨b, o, hp, hc1⟩ := Sl1.at_ S (t := 22) (k := .i64) hx u22 sz4
    obtain ⟨b2, o2, hp2, hc2⟩ := Sl1.at_ T (t := 25) (k := .i64) hz u25 sz3
    have hc1 := hc1 h (Grow.refl _)
    have hc2 := hc2 h (Grow.refl _)
    rw [drop_cons hx, drop_cons hz] at hd
    have e : (i : Int) + 1 = ((i + 1 : Nat) : Int) := by omega
    simp only [F3_lrlrrrrrrr]
    unfold F3_lrllrlrrrrrrr
    cases x
    · simp only [spreadL, List.cons.injEq] at hd
      obtain ⟨rfl, hd⟩ := hd
      have e2 : (c : Int) + 1 = ((c + 1 : Nat) : Int) := by omega
      repeat (first | (with_reducible apply Tl.val; focus (simp (disch := omega) only [coreA, goInt, Option.map_some, Nat.zero_add, Bool.not_true, Bool.not_false, Bool.true_and, Bool.false_and, Bool.and_true, Bool.and_false, cond_true, cond_false, beq_self_eq_true, Int.reduceBEq, decide_true, decide_false, Bool.or_true, Bool.or_false, Bool.true_or, Bool.false_or, ld3, ld4, ld5, ld22, ld25, ld32, bin_eql_bool u4, bin_neq_bool u4, hlen, hp, hc1, bv, hp2, hc2, iv] <;> with_reducible rfl)) | with_reducible refine Tl.brT ?_ | with_reducible refine Tl.brF ?_ | with_reducible refine Tl.gd_on ?_ | with_reducible refine Tl.gd3_on ?_ | (with_reducible refine Tl.brT' ?_ ?_; focus (simp (disch := omega) only [coreA, goInt, Option.map_some, Nat.zero_add, Bool.not_true, Bool.not_false, Bool.true_and, Bool.false_and, Bool.and_true, Bool.and_false, cond_true, cond_false, beq_self_eq_true, Int.reduceBEq, decide_true, decide_false, Bool.or_true, Bool.or_false, Bool.true_or, Bool.false_or, ld3, ld4, ld5, ld22, ld25, ld32, bin_eql_bool u4, bin_neq_bool u4, hlen, hp, hc1, bv, hp2, hc2, iv]; done)) | (with_reducible refine Tl.brF' ?_ ?_; focus (simp (disch := omega) only [coreA, goInt, Option.map_some, Nat.zero_add, Bool.not_true, Bool.not_false, Bool.true_and, Bool.false_and, Bool.and_true, Bool.and_false, cond_true, cond_false, beq_self_eq_true, Int.reduceBEq, decide_true, decide_false, Bool.or_true, Bool.or_false, Bool.true_or, Bool.false_or, ld3, ld4, ld5, ld22, ld25, ld32, bin_eql_bool u4, bin_neq_bool u4, hlen, hp, hc1, bv, hp2, hc2, iv]; done)) | (with_reducible refine Tl.gd_on' ?_ ?_; focus (simp (disch := omega) only [coreA, goInt, Option.map_some, Nat.zero_add, Bool.not_true, Bool.not_false, Bool.true_and, Bool.false_and, Bool.and_true, Bool.and_false, cond_true, cond_false, beq_self_eq_true, Int.reduceBEq, decide_true, decide_false, Bool.or_true, Bool.or_false, Bool.true_or, Bool.false_or, ld3, ld4, ld5, ld22, ld25, ld32, bin_eql_bool u4, bin_neq_bool u4, hlen, hp, hc1, bv, hp2, hc2, iv]; done)) | (with_reducible refine Tl.gd3_on' ?_ ?_; focus (simp (disch := omega) only [coreA, goInt, Option.map_some, Nat.zero_add, Bool.not_true, Bool.not_false, Bool.true_and, Bool.false_and, Bool.and_true, Bool.and_false, cond_true, cond_false, beq_self_eq_true, Int.reduceBEq, decide_true, decide_false, Bool.or_true, Bool.or_false, Bool.true_or, Bool.false_or, ld3, ld4, ld5, ld22, ld25, ld32, bin_eql_bool u4, bin_neq_bool u4, hlen, hp, hc1, bv, hp2, hc2, iv]; done)))
      rw [e, e2]
      exact ih (by omega) (by omega) (by omega) hd hk
    · simp only [spreadL, List.cons.injEq] at hd
      obtain ⟨rfl, hd⟩ := hd
      repeat (first | (with_reducible apply Tl.val; focus (simp (disch := omega) only [coreA, goInt, Option.map_some, Nat.zero_add, Bool.not_true, Bool.not_false, Bool.true_and, Bool.false_and, Bool.and_true, Bool.and_false, cond_true, cond_false, beq_self_eq_true, Int.reduceBEq, decide_true, decide_false, Bool.or_true, Bool.or_false, Bool.true_or, Bool.false_or, ld3, ld4, ld5, ld22, ld25, ld32, bin_eql_bool u4, bin_neq_bool u4, hlen, hp, hc1, bv, hp2, hc2, iv] <;> with_reducible rfl)) | with_reducible refine Tl.brT ?_ | with_reducible refine Tl.brF ?_ | with_reducible refine Tl.gd_on ?_ | with_reducible refine Tl.gd3_on ?_ | (with_reducible refine Tl.brT' ?_ ?_; focus (simp (disch := omega) only [coreA, goInt, Option.map_some, Nat.zero_add, Bool.not_true, Bool.not_false, Bool.true_and, Bool.false_and, Bool.and_true, Bool.and_false, cond_true, cond_false, beq_self_eq_true, Int.reduceBEq, decide_true, decide_false, Bool.or_true, Bool.or_false, Bool.true_or, Bool.false_or, ld3, ld4, ld5, ld22, ld25, ld32, bin_eql_bool u4, bin_neq_bool u4, hlen, hp, hc1, bv, hp2, hc2, iv]; done)) | (with_reducible refine Tl.brF' ?_ ?_; focus (simp (disch := omega) only [coreA, goInt, Option.map_some, Nat.zero_add, Bool.not_true, Bool.not_false, Bool.true_and, Bool.false_and, Bool.and_true, Bool.and_false, cond_true, cond_false, beq_self_eq_true, Int.reduceBEq, decide_true, decide_false, Bool.or_true, Bool.or_false, Bool.true_or, Bool.false_or, ld3, ld4, ld5, ld22, ld25, ld32, bin_eql_bool u4, bin_neq_bool u4, hlen, hp, hc1, bv, hp2, hc2, iv]; done)) | (with_reducible refine Tl.gd_on' ?_ ?_; focus (simp (disch := omega) only [coreA, goInt, Option.map_some, Nat.zero_add, Bool.not_true, Bool.not_false, Bool.true_and, Bool.false_and, Bool.and_true, Bool.and_false, cond_true, cond_false, beq_self_eq_true, Int.reduceBEq, decide_true, decide_false, Bool.or_true, Bool.or_false, Bool.true_or, Bool.false_or, ld3, ld4, ld5, ld22, ld25, ld32, bin_eql_bool u4, bin_neq_bool u4, hlen, hp, hc1, bv, hp2, hc2, iv]; done)) | (with_reducible refine Tl.gd3_on' ?_ ?_; focus (simp (disch := omega) only [coreA, goInt, Option.map_some, Nat.zero_add, Bool.not_true, Bool.not_false, Bool.true_and, Bool.false_and, Bool.and_true, Bool.and_false, cond_true, cond_false, beq_self_eq_true, Int.reduceBEq, decide_true, decide_false, Bool.or_true, Bool.or_false, Bool.true_or, Bool.false_or, ld3, ld4, ld5, ld22, ld25, ld32, bin_eql_bool u4, bin_neq_bool u4, hlen, hp, hc1, bv, hp2, hc2, iv]; done)))
      rw [e]
      exact ih (by omega) (by omega) (by omega) hd hk
theorem f3_in {β : Type} {k : Nat} {Q : β → Prop} {h0 : AH} {v nv sv ok : Value} {rs : List (Nat × Bool)} {R : List OS} {i m : Nat} {b : Bool} (hi : rs[i]? = some (m, b)) (hm : m ≤ 1000)
    {ke4 : Value → Value → Value → Value → Value → Value → Value → Value → AH → Option β} (n : Nat) :
    ∀ {q j : Nat} {h : AH} {av : Value} {done : List Bool}, q + n = m → n < j → done.length + n ≤ 100000 → Stt Try.prog h0.n h0 h [] ((av, 1, brows done) :: (nv, 1, irows (lens rs)) :: (sv, 1, brows (whats rs)) :: R) →
      (∀ h' av' y y', Stt Try.prog h0.n h0 h' [] ((av', 1, brows (done ++ List.replicate n b)) :: (nv, 1, irows (lens rs)) :: (sv, 1, brows (whats rs)) :: R) → Tl (ke4 v nv sv ok av' (.int .i64 i) y y' h') Q) →
      Tl (F3_lrrllrllrlrrrrrrrrrr (eInv env k) k j v nv sv ok av (.int .i64 i) (.int .i64 q) h ke4) Q := by
  induction n with
  | zero =>
    intro q j h av done hq hj hd S hk
    obtain ⟨j, rfl⟩ : ∃ q, j = q + 1 := ⟨j - 1, by omega⟩
    obtain ⟨b1, o1, hp1, hc1⟩ := Sl1.at_ (S.sl1 1 rfl) (t := 25) (k := .i64) (i := i) (x := (m : Int)) (by simp [lens, hi]) u25 sz3
    have hc1 := hc1 h (Grow.refl _)
    simp only [F3_lrrllrllrlrrrrrrrrrr]
    repeat (first | (with_reducible apply Tl.val; focus (simp (disch := omega) only [coreA, goInt, Option.map_some, Nat.zero_add, Bool.not_true, Bool.not_false, Bool.true_and, Bool.false_and, Bool.and_true, Bool.and_false, cond_true, cond_false, beq_self_eq_true, Int.reduceBEq, decide_true, decide_false, Bool.or_true, Bool.or_false, Bool.true_or, Bool.false_or, ld3, ld4, ld5, ld22, ld25, ld32, bin_eql_bool u4, bin_neq_bool u4, hp1, hc1, iv] <;> with_reducible rfl)) | with_reducible refine Tl.brT ?_ | with_reducible refine Tl.brF ?_ | with_reducible refine Tl.gd_on ?_ | with_reducible refine Tl.gd3_on ?_ | (with_reducible refine Tl.brT' ?_ ?_; focus (simp (disch := omega) only [coreA, goInt, Option.map_some, Nat.zero_add, Bool.not_true, Bool.not_false, Bool.true_and, Bool.false_and, Bool.and_true, Bool.and_false, cond_true, cond_false, beq_self_eq_true, Int.reduceBEq, decide_true, decide_false, Bool.or_true, Bool.or_false, Bool.true_or, Bool.false_or, ld3, ld4, ld5, ld22, ld25, ld32, bin_eql_bool u4, bin_neq_bool u4, hp1, hc1, iv]; done)) | (with_reducible refine Tl.brF' ?_ ?_; focus (simp (disch := omega) only [coreA, goInt, Option.map_some, Nat.zero_add, Bool.not_true, Bool.not_false, Bool.true_and, Bool.false_and, Bool.and_true, Bool.and_false, cond_true, cond_false, beq_self_eq_true, Int.reduceBEq, decide_true, decide_false, Bool.or_true, Bool.or_false, Bool.true_or, Bool.false_or, ld3, ld4, ld5, ld22, ld25, ld32, bin_eql_bool u4, bin_neq_bool u4, hp1, hc1, iv]; done)) | (with_reducible refine Tl.gd_on' ?_ ?_; focus (simp (disch := omega) only [coreA, goInt, Option.map_some, Nat.zero_add, Bool.not_true, Bool.not_false, Bool.true_and, Bool.false_and, Bool.and_true, Bool.and_false, cond_true, cond_false, beq_self_eq_true, Int.reduceBEq, decide_true, decide_false, Bool.or_true, Bool.or_false, Bool.true_or, Bool.false_or, ld3, ld4, ld5, ld22, ld25, ld32, bin_eql_bool u4, bin_neq_bool u4, hp1, hc1, iv]; done)) | (with_reducible refine Tl.gd3_on' ?_ ?_; focus (simp (disch := omega) only [coreA, goInt, Option.map_some, Nat.zero_add, Bool.not_true, Bool.not_false, Bool.true_and, Bool.false_and, Bool.and_true, Bool.and_false, cond_true, cond_false, beq_self_eq_true, Int.reduceBEq, decide_true, decide_false, Bool.or_true, Bool.or_false, Bool.true_or, Bool.false_or, ld3, ld4, ld5, ld22, ld25, ld32, bin_eql_bool u4, bin_neq_bool u4, hp1, hc1, iv]; done)))
    exact hk _ _ _ _ (by simpa using S)
  | succ n ih =>
    intro q j h av done hq hj hd S hk
    obtain ⟨j, rfl⟩ : ∃ q, j = q + 1 := ⟨j - 1, by omega⟩
    obtain ⟨b1, o1, hp1, hc1⟩ := Sl1.at_ (S.sl1 1 rfl) (t := 25) (k := .i64) (i := i) (x := (m : Int)) (by simp [lens, hi]) u25 sz3
    obtain ⟨b2, o2, hp2, hc2⟩ := Sl1.at_ (S.sl1 2 rfl) (t := 22) (k := .i64) (i := i) (x := b) (by simp [whats, hi]) u22 sz4
    have hc1 := hc1 h (Grow.refl _)
    have hc2 := hc2 h (Grow.refl _)
    have e : (q : Int) + 1 = ((q + 1 : Nat) : Int) := by omega
    simp only [F3_lrrllrllrlrrrrrrrrrr]
    repeat (first | (with_reducible apply Tl.val; focus (simp (disch := omega) only [coreA, goInt, Option.map_some, Nat.zero_add, Bool.not_true, Bool.not_false, Bool.true_and, Bool.false_and, Bool.and_true, Bool.and_false, cond_true, cond_false, beq_self_eq_true, Int.reduceBEq, decide_true, decide_false, Bool.or_true, Bool.or_false, Bool.true_or, Bool.false_or, ld3, ld4, ld5, ld22, ld25, ld32, bin_eql_bool u4, bin_neq_bool u4, hp1, hc1, iv, hp2, hc2, bv] <;> with_reducible rfl)) | with_reducible refine Tl.brT ?_ | with_reducible refine Tl.brF ?_ | with_reducible refine Tl.gd_on ?_ | with_reducible refine Tl.gd3_on ?_ | (with_reducible refine Tl.brT' ?_ ?_; focus (simp (disch := omega) only [coreA, goInt, Option.map_some, Nat.zero_add, Bool.not_true, Bool.not_false, Bool.true_and, Bool.false_and, Bool.and_true, Bool.and_false, cond_true, cond_false, beq_self_eq_true, Int.reduceBEq, decide_true, decide_false, Bool.or_true, Bool.or_false, Bool.true_or, Bool.false_or, ld3, ld4, ld5, ld22, ld25, ld32, bin_eql_bool u4, bin_neq_bool u4, hp1, hc1, iv, hp2, hc2, bv]; done)) | (with_reducible refine Tl.brF' ?_ ?_; focus (simp (disch := omega) only [coreA, goInt, Option.map_some, Nat.zero_add, Bool.not_true, Bool.not_false, Bool.true_and, Bool.false_and, Bool.and_true, Bool.and_false, cond_true, cond_false, beq_self_eq_true, Int.reduceBEq, decide_true, decide_false, Bool.or_true, Bool.or_false, Bool.true_or, Bool.false_or, ld3, ld4, ld5, ld22, ld25, ld32, bin_eql_bool u4, bin_neq_bool u4, hp1, hc1, iv, hp2, hc2, bv]; done)) | (with_reducible refine Tl.gd_on' ?_ ?_; focus (simp (disch := omega) only [coreA, goInt, Option.map_some, Nat.zero_add, Bool.not_true, Bool.not_false, Bool.true_and, Bool.false_and, Bool.and_true, Bool.and_false, cond_true, cond_false, beq_self_eq_true, Int.reduceBEq, decide_true, decide_false, Bool.or_true, Bool.or_false, Bool.true_or, Bool.false_or, ld3, ld4, ld5, ld22, ld25, ld32, bin_eql_bool u4, bin_neq_bool u4, hp1, hc1, iv, hp2, hc2, bv]; done)) | (with_reducible refine Tl.gd3_on' ?_ ?_; focus (simp (disch := omega) only [coreA, goInt, Option.map_some, Nat.zero_add, Bool.not_true, Bool.not_false, Bool.true_and, Bool.false_and, Bool.and_true, Bool.and_false, cond_true, cond_false, beq_self_eq_true, Int.reduceBEq, decide_true, decide_false, Bool.or_true, Bool.or_false, Bool.true_or, Bool.false_or, ld3, ld4, ld5, ld22, ld25, ld32, bin_eql_bool u4, bin_neq_bool u4, hp1, hc1, iv, hp2, hc2, bv]; done)))
    refine Tl.push S 0 rfl app22 (bs22 _ _) rfl rfl (by rw [brows_len]; omega) fun av' h' S' => ?_
    repeat (first | (with_reducible apply Tl.val; focus (simp (disch := omega) only [coreA, goInt, Option.map_some, Nat.zero_add, Bool.not_true, Bool.not_false, Bool.true_and, Bool.false_and, Bool.and_true, Bool.and_false, cond_true, cond_false, beq_self_eq_true, Int.reduceBEq, decide_true, decide_false, Bool.or_true, Bool.or_false, Bool.true_or, Bool.false_or, ld3, ld4, ld5, ld22, ld25, ld32, bin_eql_bool u4, bin_neq_bool u4] <;> with_reducible rfl)) | with_reducible refine Tl.brT ?_ | with_reducible refine Tl.brF ?_ | with_reducible refine Tl.gd_on ?_ | with_reducible refine Tl.gd3_on ?_ | (with_reducible refine Tl.brT' ?_ ?_; focus (simp (disch := omega) only [coreA, goInt, Option.map_some, Nat.zero_add, Bool.not_true, Bool.not_false, Bool.true_and, Bool.false_and, Bool.and_true, Bool.and_false, cond_true, cond_false, beq_self_eq_true, Int.reduceBEq, decide_true, decide_false, Bool.or_true, Bool.or_false, Bool.true_or, Bool.false_or, ld3, ld4, ld5, ld22, ld25, ld32, bin_eql_bool u4, bin_neq_bool u4]; done)) | (with_reducible refine Tl.brF' ?_ ?_; focus (simp (disch := omega) only [coreA, goInt, Option.map_some, Nat.zero_add, Bool.not_true, Bool.not_false, Bool.true_and, Bool.false_and, Bool.and_true, Bool.and_false, cond_true, cond_false, beq_self_eq_true, Int.reduceBEq, decide_true, decide_false, Bool.or_true, Bool.or_false, Bool.true_or, Bool.false_or, ld3, ld4, ld5, ld22, ld25, ld32, bin_eql_bool u4, bin_neq_bool u4]; done)) | (with_reducible refine Tl.gd_on' ?_ ?_; focus (simp (disch := omega) only [coreA, goInt, Option.map_some, Nat.zero_add, Bool.not_true, Bool.not_false, Bool.true_and, Bool.false_and, Bool.and_true, Bool.and_false, cond_true, cond_false, beq_self_eq_true, Int.reduceBEq, decide_true, decide_false, Bool.or_true, Bool.or_false, Bool.true_or, Bool.false_or, ld3, ld4, ld5, ld22, ld25, ld32, bin_eql_bool u4, bin_neq_bool u4]; done)) | (with_reducible refine Tl.gd3_on' ?_ ?_; focus (simp (disch := omega) only [coreA, goInt, Option.map_some, Nat.zero_add, Bool.not_true, Bool.not_false, Bool.true_and, Bool.false_and, Bool.and_true, Bool.and_false, cond_true, cond_false, beq_self_eq_true, Int.reduceBEq, decide_true, decide_false, Bool.or_true, Bool.or_false, Bool.true_or, Bool.false_or, ld3, ld4, ld5, ld22, ld25, ld32, bin_eql_bool u4, bin_neq_bool u4]; done)))
    rw [e]
    refine ih (done := done ++ [b]) (by omega) (by omega) (by simp; omega) (by simpa [brows, bv] using S') fun h'' av'' y y' S'' => ?_
    refine hk _ _ _ _ ?_
    rw [List.replicate_succ]
    simpa using S''
theorem f3_loop2 {β : Type} {k : Nat} {Q : β → Prop} {h0 : AH} {v nv sv ok : Value} {l : List Bool} {rs : List (Nat × Bool)} {R : List OS} (B : Bools h0 v l) (hl : l.length ≤ 300) (hk0 : 1000 < k)
    (hm : ∀ r ∈ rs, 1 ≤ r.1 ∧ r.1 ≤ l.length) (ha : ∀ i x y, rs[i]? = some x → rs[i + 1]? = some y → x.2 ≠ y.2) (hrs : rs.length ≤ 300)
    {ke2 : Value → Value → Value → Value → Value → Value → Value → AH → Option β} {kr : Value → AH → Option β} (n : Nat) :
    ∀ {i j : Nat} {h : AH} {av : Value} {done : List Bool}, i + n = rs.length → n < j → done.length ≤ 300 * i → Stt Try.prog h0.n h0 h [] ((av, 1, brows done) :: (nv, 1, irows (lens rs)) :: (sv, 1, brows (whats rs)) :: R) →
      (∀ h' av' y y', Stt Try.prog h0.n h0 h' [] ((av', 1, brows (done ++ expand (rs.drop i))) :: (nv, 1, irows (lens rs)) :: (sv, 1, brows (whats rs)) :: R) → Tl (ke2 v nv sv ok av' y y' h') Q) →
      Tl (F3_lrlrrrrrrrrrr (eInv env k) k j v nv sv ok av (.int .i64 i) h ke2 kr) Q := by
  induction n with
  | zero =>
    intro i j h av done hi hj hd S hk
    obtain ⟨j, rfl⟩ : ∃ q, j = q + 1 := ⟨j - 1, by omega⟩
    have hlen : ∀ h', pLen Try.prog #[25] nv h' = some (.int .i64 rs.length) := fun h' => by
      have := SlV.len (S.slV 1 rfl) u25 (h' := h')
      simpa [irows, lens] using this
    simp only [F3_lrlrrrrrrrrrr]
    repeat (first | (with_reducible apply Tl.val; focus (simp (disch := omega) only [coreA, goInt, Option.map_some, Nat.zero_add, Bool.not_true, Bool.not_false, Bool.true_and, Bool.false_and, Bool.and_true, Bool.and_false, cond_true, cond_false, beq_self_eq_true, Int.reduceBEq, decide_true, decide_false, Bool.or_true, Bool.or_false, Bool.true_or, Bool.false_or, ld3, ld4, ld5, ld22, ld25, ld32, bin_eql_bool u4, bin_neq_bool u4, hlen] <;> with_reducible rfl)) | with_reducible refine Tl.brT ?_ | with_reducible refine Tl.brF ?_ | with_reducible refine Tl.gd_on ?_ | with_reducible refine Tl.gd3_on ?_ | (with_reducible refine Tl.brT' ?_ ?_; focus (simp (disch := omega) only [coreA, goInt, Option.map_some, Nat.zero_add, Bool.not_true, Bool.not_false, Bool.true_and, Bool.false_and, Bool.and_true, Bool.and_false, cond_true, cond_false, beq_self_eq_true, Int.reduceBEq, decide_true, decide_false, Bool.or_true, Bool.or_false, Bool.true_or, Bool.false_or, ld3, ld4, ld5, ld22, ld25, ld32, bin_eql_bool u4, bin_neq_bool u4, hlen]; done)) | (with_reducible refine Tl.brF' ?_ ?_; focus (simp (disch := omega) only [coreA, goInt, Option.map_some, Nat.zero_add, Bool.not_true, Bool.not_false, Bool.true_and, Bool.false_and, Bool.and_true, Bool.and_false, cond_true, cond_false, beq_self_eq_true, Int.reduceBEq, decide_true, decide_false, Bool.or_true, Bool.or_false, Bool.true_or, Bool.false_or, ld3, ld4, ld5, ld22, ld25, ld32, bin_eql_bool u4, bin_neq_bool u4, hlen]; done)) | (with_reducible refine Tl.gd_on' ?_ ?_; focus (simp (disch := omega) only [coreA, goInt, Option.map_some, Nat.zero_add, Bool.not_true, Bool.not_false, Bool.true_and, Bool.false_and, Bool.and_true, Bool.and_false, cond_true, cond_false, beq_self_eq_true, Int.reduceBEq, decide_true, decide_false, Bool.or_true, Bool.or_false, Bool.true_or, Bool.false_or, ld3, ld4, ld5, ld22, ld25, ld32, bin_eql_bool u4, bin_neq_bool u4, hlen]; done)) | (with_reducible refine Tl.gd3_on' ?_ ?_; focus (simp (disch := omega) only [coreA, goInt, Option.map_some, Nat.zero_add, Bool.not_true, Bool.not_false, Bool.true_and, Bool.false_and, Bool.and_true, Bool.and_false, cond_true, cond_false, beq_self_eq_true, Int.reduceBEq, decide_true, decide_false, Bool.or_true, Bool.or_false, Bool.true_or, Bool.false_or, ld3, ld4, ld5, ld22, ld25, ld32, bin_eql_bool u4, bin_neq_bool u4, hlen]; done)))
    refine hk _ _ _ _ ?_
    rw [List.drop_eq_nil_of_le (by omega)]
    simpa [expand] using S
  | succ n ih =>
    intro i j h av done hi hj hd S hk
    obtain ⟨j, rfl⟩ : ∃ q, j = q + 1 := ⟨j - 1, by omega⟩
    have hlen : ∀ h', pLen Try.prog #[25] nv h' = some (.int .i64 rs.length) := fun h' => by
      have := SlV.len (S.slV 1 rfl) u25 (h' := h')
      simpa [irows, lens] using this
    have hlv : ∀ h', pLen Try.prog #[22] v h' = some (.int .i64 l.length) := fun h' => Sl1.len B u22
    obtain ⟨⟨m, b⟩, hx⟩ : ∃ x, rs[i]? = some x := ⟨_, List.getElem?_eq_getElem (by omega)⟩
    obtain ⟨m1, m2⟩ := hm _ (List.mem_of_getElem? hx)
    simp only at m1 m2
    obtain ⟨b1, o1, hp1, hc1⟩ := Sl1.at_ (S.sl1 1 rfl) (t := 25) (k := .i64) (i := i) (x := (m : Int)) (by simp [lens, hx]) u25 sz3
    obtain ⟨b2, o2, hp2, hc2⟩ := Sl1.at_ (S.sl1 2 rfl) (t := 22) (k := .i64) (i := i) (x := b) (by simp [whats, hx]) u22 sz4
    have hc1 := hc1 h (Grow.refl _)
    have hc2 := hc2 h (Grow.refl _)
    have e : (i : Int) + 1 = ((i + 1 : Nat) : Int) := by omega
    have fin : Tl (F3_lrrllrllrlrrrrrrrrrr (eInv env k) k k v nv sv ok av (.int .i64 i) (.int .i64 0) h fun y0 y7 y8 y9 y10 y11 y12 y127 h =>
        Ev.bnd (pBin Try.prog Go.BinOp.add 3 (Go.Operand.tmp 90) (Go.Operand.const (Go.Value.int Go.IntKind.i64 1)) y11 (Go.Value.int Go.IntKind.i64 1)) fun x91 =>
        F3_lrlrrrrrrrrrr (eInv env k) k j y0 y7 y8 y9 y10 x91 h ke2 kr) Q := by
      refine f3_in (i := i) hx (by omega) m (q := 0) (by omega) (by omega) (by omega) S fun h' av' y y' S' => ?_
      repeat (first | (with_reducible apply Tl.val; focus (simp (disch := omega) only [coreA, goInt, Option.map_some, Nat.zero_add, Bool.not_true, Bool.not_false, Bool.true_and, Bool.false_and, Bool.and_true, Bool.and_false, cond_true, cond_false, beq_self_eq_true, Int.reduceBEq, decide_true, decide_false, Bool.or_true, Bool.or_false, Bool.true_or, Bool.false_or, ld3, ld4, ld5, ld22, ld25, ld32, bin_eql_bool u4, bin_neq_bool u4] <;> with_reducible rfl)) | with_reducible refine Tl.brT ?_ | with_reducible refine Tl.brF ?_ | with_reducible refine Tl.gd_on ?_ | with_reducible refine Tl.gd3_on ?_ | (with_reducible refine Tl.brT' ?_ ?_; focus (simp (disch := omega) only [coreA, goInt, Option.map_some, Nat.zero_add, Bool.not_true, Bool.not_false, Bool.true_and, Bool.false_and, Bool.and_true, Bool.and_false, cond_true, cond_false, beq_self_eq_true, Int.reduceBEq, decide_true, decide_false, Bool.or_true, Bool.or_false, Bool.true_or, Bool.false_or, ld3, ld4, ld5, ld22, ld25, ld32, bin_eql_bool u4, bin_neq_bool u4]; done)) | (with_reducible refine Tl.brF' ?_ ?_; focus (simp (disch := omega) only [coreA, goInt, Option.map_some, Nat.zero_add, Bool.not_true, Bool.not_false, Bool.true_and, Bool.false_and, Bool.and_true, Bool.and_false, cond_true, cond_false, beq_self_eq_true, Int.reduceBEq, decide_true, decide_false, Bool.or_true, Bool.or_false, Bool.true_or, Bool.false_or, ld3, ld4, ld5, ld22, ld25, ld32, bin_eql_bool u4, bin_neq_bool u4]; done)) | (with_reducible refine Tl.gd_on' ?_ ?_; focus (simp (disch := omega) only [coreA, goInt, Option.map_some, Nat.zero_add, Bool.not_true, Bool.not_false, Bool.true_and, Bool.false_and, Bool.and_true, Bool.and_false, cond_true, cond_false, beq_self_eq_true, Int.reduceBEq, decide_true, decide_false, Bool.or_true, Bool.or_false, Bool.true_or, Bool.false_or, ld3, ld4, ld5, ld22, ld25, ld32, bin_eql_bool u4, bin_neq_bool u4]; done)) | (with_reducible refine Tl.gd3_on' ?_ ?_; focus (simp (disch := omega) only [coreA, goInt, Option.map_some, Nat.zero_add, Bool.not_true, Bool.not_false, Bool.true_and, Bool.false_and, Bool.and_true, Bool.and_false, cond_true, cond_false, beq_self_eq_true, Int.reduceBEq, decide_true, decide_false, Bool.or_true, Bool.or_false, Bool.true_or, Bool.false_or, ld3, ld4, ld5, ld22, ld25, ld32, bin_eql_bool u4, bin_neq_bool u4]; done)))
      rw [e]
      refine ih (done := done ++ List.replicate m b) (by omega) (by omega) (by simp; omega) S' fun h'' av'' y y' S'' => hk _ _ _ _ ?_
      rw [drop_cons hx]
      simpa [expand] using S''
    simp only [F3_lrlrrrrrrrrrr]
    cases i with
    | zero =>
      repeat (first | (with_reducible apply Tl.val; focus (simp (disch := omega) only [coreA, goInt, Option.map_some, Nat.zero_add, Bool.not_true, Bool.not_false, Bool.true_and, Bool.false_and, Bool.and_true, Bool.and_false, cond_true, cond_false, beq_self_eq_true, Int.reduceBEq, decide_true, decide_false, Bool.or_true, Bool.or_false, Bool.true_or, Bool.false_or, ld3, ld4, ld5, ld22, ld25, ld32, bin_eql_bool u4, bin_neq_bool u4, hlen, hlv, hp1, hc1, iv, hp2, hc2, bv] <;> with_reducible rfl)) | with_reducible refine Tl.brT ?_ | with_reducible refine Tl.brF ?_ | with_reducible refine Tl.gd_on ?_ | with_reducible refine Tl.gd3_on ?_ | (with_reducible refine Tl.brT' ?_ ?_; focus (simp (disch := omega) only [coreA, goInt, Option.map_some, Nat.zero_add, Bool.not_true, Bool.not_false, Bool.true_and, Bool.false_and, Bool.and_true, Bool.and_false, cond_true, cond_false, beq_self_eq_true, Int.reduceBEq, decide_true, decide_false, Bool.or_true, Bool.or_false, Bool.true_or, Bool.false_or, ld3, ld4, ld5, ld22, ld25, ld32, bin_eql_bool u4, bin_neq_bool u4, hlen, hlv, hp1, hc1, iv, hp2, hc2, bv]; done)) | (with_reducible refine Tl.brF' ?_ ?_; focus (simp (disch := omega) only [coreA, goInt, Option.map_some, Nat.zero_add, Bool.not_true, Bool.not_false, Bool.true_and, Bool.false_and, Bool.and_true, Bool.and_false, cond_true, cond_false, beq_self_eq_true, Int.reduceBEq, decide_true, decide_false, Bool.or_true, Bool.or_false, Bool.true_or, Bool.false_or, ld3, ld4, ld5, ld22, ld25, ld32, bin_eql_bool u4, bin_neq_bool u4, hlen, hlv, hp1, hc1, iv, hp2, hc2, bv]; done)) | (with_reducible refine Tl.gd_on' ?_ ?_; focus (simp (disch := omega) only [coreA, goInt, Option.map_some, Nat.zero_add, Bool.not_true, Bool.not_false, Bool.true_and, Bool.false_and, Bool.and_true, Bool.and_false, cond_true, cond_false, beq_self_eq_true, Int.reduceBEq, decide_true, decide_false, Bool.or_true, Bool.or_false, Bool.true_or, Bool.false_or, ld3, ld4, ld5, ld22, ld25, ld32, bin_eql_bool u4, bin_neq_bool u4, hlen, hlv, hp1, hc1, iv, hp2, hc2, bv]; done)) | (with_reducible refine Tl.gd3_on' ?_ ?_; focus (simp (disch := omega) only [coreA, goInt, Option.map_some, Nat.zero_add, Bool.not_true, Bool.not_false, Bool.true_and, Bool.false_and, Bool.and_true, Bool.and_false, cond_true, cond_false, beq_self_eq_true, Int.reduceBEq, decide_true, decide_false, Bool.or_true, Bool.or_false, Bool.true_or, Bool.false_or, ld3, ld4, ld5, ld22, ld25, ld32, bin_eql_bool u4, bin_neq_bool u4, hlen, hlv, hp1, hc1, iv, hp2, hc2, bv]; done)))
      exact fin
    | succ i =>
      obtain ⟨⟨m', b'⟩, hx'⟩ : ∃ x, rs[i]? = some x := ⟨_, List.getElem?_eq_getElem (by omega)⟩
      obtain ⟨b3, o3, hp3, hc3⟩ := Sl1.at_ (S.sl1 2 rfl) (t := 22) (k := .i64) (i := i) (x := b') (by simp [whats, hx']) u22 sz4
      have hc3 := hc3 h (Grow.refl _)
      have e3 : (i : Int) = ((i + 1 : Nat) : Int) - 1 := by omega
      rw [e3] at hp3
      have hne : (b == b') = false := by
        have := ha i _ _ hx' hx
        simp only at this
        simp
        exact fun q => this q.symm
      repeat (first | (with_reducible apply Tl.val; focus (simp (disch := omega) only [coreA, goInt, Option.map_some, Nat.zero_add, Bool.not_true, Bool.not_false, Bool.true_and, Bool.false_and, Bool.and_true, Bool.and_false, cond_true, cond_false, beq_self_eq_true, Int.reduceBEq, decide_true, decide_false, Bool.or_true, Bool.or_false, Bool.true_or, Bool.false_or, ld3, ld4, ld5, ld22, ld25, ld32, bin_eql_bool u4, bin_neq_bool u4, hlen, hlv, hp1, hc1, iv, hp2, hc2, bv, hp3, hc3, hne] <;> with_reducible rfl)) | with_reducible refine Tl.brT ?_ | with_reducible refine Tl.brF ?_ | with_reducible refine Tl.gd_on ?_ | with_reducible refine Tl.gd3_on ?_ | (with_reducible refine Tl.brT' ?_ ?_; focus (simp (disch := omega) only [coreA, goInt, Option.map_some, Nat.zero_add, Bool.not_true, Bool.not_false, Bool.true_and, Bool.false_and, Bool.and_true, Bool.and_false, cond_true, cond_false, beq_self_eq_true, Int.reduceBEq, decide_true, decide_false, Bool.or_true, Bool.or_false, Bool.true_or, Bool.false_or, ld3, ld4, ld5, ld22, ld25, ld32, bin_eql_bool u4, bin_neq_bool u4, hlen, hlv, hp1, hc1, iv, hp2, hc2, bv, hp3, hc3, hne]; done)) | (with_reducible refine Tl.brF' ?_ ?_; focus (simp (disch := omega) only [coreA, goInt, Option.map_some, Nat.zero_add, Bool.not_true, Bool.not_false, Bool.true_and, Bool.false_and, Bool.and_true, Bool.and_false, cond_true, cond_false, beq_self_eq_true, Int.reduceBEq, decide_true, decide_false, Bool.or_true, Bool.or_false, Bool.true_or, Bool.false_or, ld3, ld4, ld5, ld22, ld25, ld32, bin_eql_bool u4, bin_neq_bool u4, hlen, hlv, hp1, hc1, iv, hp2, hc2, bv, hp3, hc3, hne]; done)) | (with_reducible refine Tl.gd_on' ?_ ?_; focus (simp (disch := omega) only [coreA, goInt, Option.map_some, Nat.zero_add, Bool.not_true, Bool.not_false, Bool.true_and, Bool.false_and, Bool.and_true, Bool.and_false, cond_true, cond_false, beq_self_eq_true, Int.reduceBEq, decide_true, decide_false, Bool.or_true, Bool.or_false, Bool.true_or, Bool.false_or, ld3, ld4, ld5, ld22, ld25, ld32, bin_eql_bool u4, bin_neq_bool u4, hlen, hlv, hp1, hc1, iv, hp2, hc2, bv, hp3, hc3, hne]; done)) | (with_reducible refine Tl.gd3_on' ?_ ?_; focus (simp (disch := omega) only [coreA, goInt, Option.map_some, Nat.zero_add, Bool.not_true, Bool.not_false, Bool.true_and, Bool.false_and, Bool.and_true, Bool.and_false, cond_true, cond_false, beq_self_eq_true, Int.reduceBEq, decide_true, decide_false, Bool.or_true, Bool.or_false, Bool.true_or, Bool.false_or, ld3, ld4, ld5, ld22, ld25, ld32, bin_eql_bool u4, bin_neq_bool u4, hlen, hlv, hp1, hc1, iv, hp2, hc2, bv, hp3, hc3, hne]; done)))
      exact fin
theorem f3 {k : Nat} {h : AH} {v : Value} {l : List Bool} (B : Bools h v l) :
    Tl (F3 (eInv env (k + 12000)) (k + 12000) v h) fun r => r.1 = .bool true := by
  unfold F3
  have hlen : ∀ h', pLen Try.prog #[22] v h' = some (.int .i64 l.length) := fun h' => Sl1.len B u22
  by_cases hl : l.length ≤ 300
  · have hc := f9c (k := k + 11998) B (by omega) (by omega)
    have hle := cnt_le l
    repeat (first | (with_reducible apply Tl.val; focus (simp (disch := omega) only [coreA, goInt, Option.map_some, Nat.zero_add, Bool.not_true, Bool.not_false, Bool.true_and, Bool.false_and, Bool.and_true, Bool.and_false, cond_true, cond_false, beq_self_eq_true, Int.reduceBEq, decide_true, decide_false, Bool.or_true, Bool.or_false, Bool.true_or, Bool.false_or, ld3, ld4, ld5, ld22, ld25, ld32, bin_eql_bool u4, bin_neq_bool u4, lives_call, hlen, hc] <;> with_reducible rfl)) | with_reducible refine Tl.brT ?_ | with_reducible refine Tl.brF ?_ | with_reducible refine Tl.gd_on ?_ | with_reducible refine Tl.gd3_on ?_ | (with_reducible refine Tl.brT' ?_ ?_; focus (simp (disch := omega) only [coreA, goInt, Option.map_some, Nat.zero_add, Bool.not_true, Bool.not_false, Bool.true_and, Bool.false_and, Bool.and_true, Bool.and_false, cond_true, cond_false, beq_self_eq_true, Int.reduceBEq, decide_true, decide_false, Bool.or_true, Bool.or_false, Bool.true_or, Bool.false_or, ld3, ld4, ld5, ld22, ld25, ld32, bin_eql_bool u4, bin_neq_bool u4, lives_call, hlen, hc]; done)) | (with_reducible refine Tl.brF' ?_ ?_; focus (simp (disch := omega) only [coreA, goInt, Option.map_some, Nat.zero_add, Bool.not_true, Bool.not_false, Bool.true_and, Bool.false_and, Bool.and_true, Bool.and_false, cond_true, cond_false, beq_self_eq_true, Int.reduceBEq, decide_true, decide_false, Bool.or_true, Bool.or_false, Bool.true_or, Bool.false_or, ld3, ld4, ld5, ld22, ld25, ld32, bin_eql_bool u4, bin_neq_bool u4, lives_call, hlen, hc]; done)) | (with_reducible refine Tl.gd_on' ?_ ?_; focus (simp (disch := omega) only [coreA, goInt, Option.map_some, Nat.zero_add, Bool.not_true, Bool.not_false, Bool.true_and, Bool.false_and, Bool.and_true, Bool.and_false, cond_true, cond_false, beq_self_eq_true, Int.reduceBEq, decide_true, decide_false, Bool.or_true, Bool.or_false, Bool.true_or, Bool.false_or, ld3, ld4, ld5, ld22, ld25, ld32, bin_eql_bool u4, bin_neq_bool u4, lives_call, hlen, hc]; done)) | (with_reducible refine Tl.gd3_on' ?_ ?_; focus (simp (disch := omega) only [coreA, goInt, Option.map_some, Nat.zero_add, Bool.not_true, Bool.not_false, Bool.true_and, Bool.false_and, Bool.and_true, Bool.and_false, cond_true, cond_false, beq_self_eq_true, Int.reduceBEq, decide_true, decide_false, Bool.or_true, Bool.or_false, Bool.true_or, Bool.false_or, ld3, ld4, ld5, ld22, ld25, ld32, bin_eql_bool u4, bin_neq_bool u4, lives_call, hlen, hc]; done)))
    refine Tl.callO (Stt.init h) (f10c (k := k + 11997) B (by omega) (by omega) _) fun s h1 S1 g1 => ?_
    have es : spreadV l ((l.length : Int) - cnt l) = spreadL 0 l := by unfold spreadV; rw [if_pos rfl]
    rw [es] at S1
    have hsl : ∀ h', pLen Try.prog #[25] s h' = some (.int .i64 l.length) := fun h' => by
      have := SlV.len (S1.slV 0 rfl) u25 (h' := h')
      rw [irows_len, spreadL_len] at this
      exact this
    repeat (first | (with_reducible apply Tl.val; focus (simp (disch := omega) only [coreA, goInt, Option.map_some, Nat.zero_add, Bool.not_true, Bool.not_false, Bool.true_and, Bool.false_and, Bool.and_true, Bool.and_false, cond_true, cond_false, beq_self_eq_true, Int.reduceBEq, decide_true, decide_false, Bool.or_true, Bool.or_false, Bool.true_or, Bool.false_or, ld3, ld4, ld5, ld22, ld25, ld32, bin_eql_bool u4, bin_neq_bool u4, hlen, hsl] <;> with_reducible rfl)) | with_reducible refine Tl.brT ?_ | with_reducible refine Tl.brF ?_ | with_reducible refine Tl.gd_on ?_ | with_reducible refine Tl.gd3_on ?_ | (with_reducible refine Tl.brT' ?_ ?_; focus (simp (disch := omega) only [coreA, goInt, Option.map_some, Nat.zero_add, Bool.not_true, Bool.not_false, Bool.true_and, Bool.false_and, Bool.and_true, Bool.and_false, cond_true, cond_false, beq_self_eq_true, Int.reduceBEq, decide_true, decide_false, Bool.or_true, Bool.or_false, Bool.true_or, Bool.false_or, ld3, ld4, ld5, ld22, ld25, ld32, bin_eql_bool u4, bin_neq_bool u4, hlen, hsl]; done)) | (with_reducible refine Tl.brF' ?_ ?_; focus (simp (disch := omega) only [coreA, goInt, Option.map_some, Nat.zero_add, Bool.not_true, Bool.not_false, Bool.true_and, Bool.false_and, Bool.and_true, Bool.and_false, cond_true, cond_false, beq_self_eq_true, Int.reduceBEq, decide_true, decide_false, Bool.or_true, Bool.or_false, Bool.true_or, Bool.false_or, ld3, ld4, ld5, ld22, ld25, ld32, bin_eql_bool u4, bin_neq_bool u4, hlen, hsl]; done)) | (with_reducible refine Tl.gd_on' ?_ ?_; focus (simp (disch := omega) only [coreA, goInt, Option.map_some, Nat.zero_add, Bool.not_true, Bool.not_false, Bool.true_and, Bool.false_and, Bool.and_true, Bool.and_false, cond_true, cond_false, beq_self_eq_true, Int.reduceBEq, decide_true, decide_false, Bool.or_true, Bool.or_false, Bool.true_or, Bool.false_or, ld3, ld4, ld5, ld22, ld25, ld32, bin_eql_bool u4, bin_neq_bool u4, hlen, hsl]; done)) | (with_reducible refine Tl.gd3_on' ?_ ?_; focus (simp (disch := omega) only [coreA, goInt, Option.map_some, Nat.zero_add, Bool.not_true, Bool.not_false, Bool.true_and, Bool.false_and, Bool.and_true, Bool.and_false, cond_true, cond_false, beq_self_eq_true, Int.reduceBEq, decide_true, decide_false, Bool.or_true, Bool.or_false, Bool.true_or, Bool.false_or, ld3, ld4, ld5, ld22, ld25, ld32, bin_eql_bool u4, bin_neq_bool u4, hlen, hsl]; done)))
    refine f3_loop1 (k := k + 12000) (i := 0) (c := 0) (B.grow g1) (S1.sl1 0 rfl) hl (spreadL_len l 0) l.length (by omega) (by omega) (by omega) (by simp) fun y y' y'' => ?_
    refine Tl.bind (f11c (k := k + 11980) (B.grow g1) (by omega) (by omega)) ?_
    rintro ⟨r, h2⟩ ⟨nv, sv, er, S2⟩
    simp only at er S2
    subst er
    have S2 := S1.join S2
    have N := slV_cells (S2.slV 0 rfl)
    have V := slV_cells (S2.slV 1 rfl)
    repeat (first | (with_reducible apply Tl.val; focus (simp (disch := omega) only [coreA, goInt, Option.map_some, Nat.zero_add, Bool.not_true, Bool.not_false, Bool.true_and, Bool.false_and, Bool.and_true, Bool.and_false, cond_true, cond_false, beq_self_eq_true, Int.reduceBEq, decide_true, decide_false, Bool.or_true, Bool.or_false, Bool.true_or, Bool.false_or, ld3, ld4, ld5, ld22, ld25, ld32, bin_eql_bool u4, bin_neq_bool u4, ex3_0, ex3_1, ex3_2] <;> with_reducible rfl)) | with_reducible refine Tl.brT ?_ | with_reducible refine Tl.brF ?_ | with_reducible refine Tl.gd_on ?_ | with_reducible refine Tl.gd3_on ?_ | (with_reducible refine Tl.brT' ?_ ?_; focus (simp (disch := omega) only [coreA, goInt, Option.map_some, Nat.zero_add, Bool.not_true, Bool.not_false, Bool.true_and, Bool.false_and, Bool.and_true, Bool.and_false, cond_true, cond_false, beq_self_eq_true, Int.reduceBEq, decide_true, decide_false, Bool.or_true, Bool.or_false, Bool.true_or, Bool.false_or, ld3, ld4, ld5, ld22, ld25, ld32, bin_eql_bool u4, bin_neq_bool u4, ex3_0, ex3_1, ex3_2]; done)) | (with_reducible refine Tl.brF' ?_ ?_; focus (simp (disch := omega) only [coreA, goInt, Option.map_some, Nat.zero_add, Bool.not_true, Bool.not_false, Bool.true_and, Bool.false_and, Bool.and_true, Bool.and_false, cond_true, cond_false, beq_self_eq_true, Int.reduceBEq, decide_true, decide_false, Bool.or_true, Bool.or_false, Bool.true_or, Bool.false_or, ld3, ld4, ld5, ld22, ld25, ld32, bin_eql_bool u4, bin_neq_bool u4, ex3_0, ex3_1, ex3_2]; done)) | (with_reducible refine Tl.gd_on' ?_ ?_; focus (simp (disch := omega) only [coreA, goInt, Option.map_some, Nat.zero_add, Bool.not_true, Bool.not_false, Bool.true_and, Bool.false_and, Bool.and_true, Bool.and_false, cond_true, cond_false, beq_self_eq_true, Int.reduceBEq, decide_true, decide_false, Bool.or_true, Bool.or_false, Bool.true_or, Bool.false_or, ld3, ld4, ld5, ld22, ld25, ld32, bin_eql_bool u4, bin_neq_bool u4, ex3_0, ex3_1, ex3_2]; done)) | (with_reducible refine Tl.gd3_on' ?_ ?_; focus (simp (disch := omega) only [coreA, goInt, Option.map_some, Nat.zero_add, Bool.not_true, Bool.not_false, Bool.true_and, Bool.false_and, Bool.and_true, Bool.and_false, cond_true, cond_false, beq_self_eq_true, Int.reduceBEq, decide_true, decide_false, Bool.or_true, Bool.or_false, Bool.true_or, Bool.false_or, ld3, ld4, ld5, ld22, ld25, ld32, bin_eql_bool u4, bin_neq_bool u4, ex3_0, ex3_1, ex3_2]; done)))
    refine f3_loop2 (k := k + 12000) (i := 0) (done := []) B hl (by omega) (fun r hr => ⟨runsL_pos l r hr, ?_⟩) (runsL_apart l) (by have := runsL_len l; omega) (runsL l).length (by omega) (by have := runsL_len l; omega) (by simp) (S2.nil 1) fun h3 av y y' S3 => ?_
    · have := expand_le (runsL l) r hr
      rw [runsL_expand] at this
      exact this
    · simp only [List.drop_zero, List.nil_append, runsL_expand] at S3
      have hs := f12c (k := k + 11999) (S3.sl1 0 rfl) (B.grow S3.grow) (by omega) (by omega) (by omega)
      rw [decide_eq_true rfl] at hs
      repeat (first | (with_reducible apply Tl.val; focus (simp (disch := omega) only [coreA, goInt, Option.map_some, Nat.zero_add, Bool.not_true, Bool.not_false, Bool.true_and, Bool.false_and, Bool.and_true, Bool.and_false, cond_true, cond_false, beq_self_eq_true, Int.reduceBEq, decide_true, decide_false, Bool.or_true, Bool.or_false, Bool.true_or, Bool.false_or, ld3, ld4, ld5, ld22, ld25, ld32, bin_eql_bool u4, bin_neq_bool u4, hs] <;> with_reducible rfl)) | with_reducible refine Tl.brT ?_ | with_reducible refine Tl.brF ?_ | with_reducible refine Tl.gd_on ?_ | with_reducible refine Tl.gd3_on ?_ | (with_reducible refine Tl.brT' ?_ ?_; focus (simp (disch := omega) only [coreA, goInt, Option.map_some, Nat.zero_add, Bool.not_true, Bool.not_false, Bool.true_and, Bool.false_and, Bool.and_true, Bool.and_false, cond_true, cond_false, beq_self_eq_true, Int.reduceBEq, decide_true, decide_false, Bool.or_true, Bool.or_false, Bool.true_or, Bool.false_or, ld3, ld4, ld5, ld22, ld25, ld32, bin_eql_bool u4, bin_neq_bool u4, hs]; done)) | (with_reducible refine Tl.brF' ?_ ?_; focus (simp (disch := omega) only [coreA, goInt, Option.map_some, Nat.zero_add, Bool.not_true, Bool.not_false, Bool.true_and, Bool.false_and, Bool.and_true, Bool.and_false, cond_true, cond_false, beq_self_eq_true, Int.reduceBEq, decide_true, decide_false, Bool.or_true, Bool.or_false, Bool.true_or, Bool.false_or, ld3, ld4, ld5, ld22, ld25, ld32, bin_eql_bool u4, bin_neq_bool u4, hs]; done)) | (with_reducible refine Tl.gd_on' ?_ ?_; focus (simp (disch := omega) only [coreA, goInt, Option.map_some, Nat.zero_add, Bool.not_true, Bool.not_false, Bool.true_and, Bool.false_and, Bool.and_true, Bool.and_false, cond_true, cond_false, beq_self_eq_true, Int.reduceBEq, decide_true, decide_false, Bool.or_true, Bool.or_false, Bool.true_or, Bool.false_or, ld3, ld4, ld5, ld22, ld25, ld32, bin_eql_bool u4, bin_neq_bool u4, hs]; done)) | (with_reducible refine Tl.gd3_on' ?_ ?_; focus (simp (disch := omega) only [coreA, goInt, Option.map_some, Nat.zero_add, Bool.not_true, Bool.not_false, Bool.true_and, Bool.false_and, Bool.and_true, Bool.and_false, cond_true, cond_false, beq_self_eq_true, Int.reduceBEq, decide_true, decide_false, Bool.or_true, Bool.or_false, Bool.true_or, Bool.false_or, ld3, ld4, ld5, ld22, ld25, ld32, bin_eql_bool u4, bin_neq_bool u4, hs]; done)))
      exact ⟨_, rfl, rfl⟩
  · repeat (first | (with_reducible apply Tl.val; focus (simp (disch := omega) only [coreA, goInt, Option.map_some, Nat.zero_add, Bool.not_true, Bool.not_false, Bool.true_and, Bool.false_and, Bool.and_true, Bool.and_false, cond_true, cond_false, beq_self_eq_true, Int.reduceBEq, decide_true, decide_false, Bool.or_true, Bool.or_false, Bool.true_or, Bool.false_or, ld3, ld4, ld5, ld22, ld25, ld32, bin_eql_bool u4, bin_neq_bool u4, lives_call, hlen] <;> with_reducible rfl)) | with_reducible refine Tl.brT ?_ | with_reducible refine Tl.brF ?_ | with_reducible refine Tl.gd_on ?_ | with_reducible refine Tl.gd3_on ?_ | (with_reducible refine Tl.brT' ?_ ?_; focus (simp (disch := omega) only [coreA, goInt, Option.map_some, Nat.zero_add, Bool.not_true, Bool.not_false, Bool.true_and, Bool.false_and, Bool.and_true, Bool.and_false, cond_true, cond_false, beq_self_eq_true, Int.reduceBEq, decide_true, decide_false, Bool.or_true, Bool.or_false, Bool.true_or, Bool.false_or, ld3, ld4, ld5, ld22, ld25, ld32, bin_eql_bool u4, bin_neq_bool u4, lives_call, hlen]; done)) | (with_reducible refine Tl.brF' ?_ ?_; focus (simp (disch := omega) only [coreA, goInt, Option.map_some, Nat.zero_add, Bool.not_true, Bool.not_false, Bool.true_and, Bool.false_and, Bool.and_true, Bool.and_false, cond_true, cond_false, beq_self_eq_true, Int.reduceBEq, decide_true, decide_false, Bool.or_true, Bool.or_false, Bool.true_or, Bool.false_or, ld3, ld4, ld5, ld22, ld25, ld32, bin_eql_bool u4, bin_neq_bool u4, lives_call, hlen]; done)) | (with_reducible refine Tl.gd_on' ?_ ?_; focus (simp (disch := omega) only [coreA, goInt, Option.map_some, Nat.zero_add, Bool.not_true, Bool.not_false, Bool.true_and, Bool.false_and, Bool.and_true, Bool.and_false, cond_true, cond_false, beq_self_eq_true, Int.reduceBEq, decide_true, decide_false, Bool.or_true, Bool.or_false, Bool.true_or, Bool.false_or, ld3, ld4, ld5, ld22, ld25, ld32, bin_eql_bool u4, bin_neq_bool u4, lives_call, hlen]; done)) | (with_reducible refine Tl.gd3_on' ?_ ?_; focus (simp (disch := omega) only [coreA, goInt, Option.map_some, Nat.zero_add, Bool.not_true, Bool.not_false, Bool.true_and, Bool.false_and, Bool.and_true, Bool.and_false, cond_true, cond_false, beq_self_eq_true, Int.reduceBEq, decide_true, decide_false, Bool.or_true, Bool.or_false, Bool.true_or, Bool.false_or, ld3, ld4, ld5, ld22, ld25, ld32, bin_eql_bool u4, bin_neq_bool u4, lives_call, hlen]; done)))
    exact ⟨_, rfl, rfl⟩
end Go.Proofs.Ytoleebigheobcaa.Sh
