/- What 'Put' of the nulls' package comes to. -/
import Derived.Test.YtghelamfaaakcaaGreatSzNa
import Derived.Test.YtghelamfaaakcaaGreatSzPb
set_option linter.unusedVariables false
set_option linter.unusedSimpArgs false
set_option maxRecDepth 100000
namespace Go.Proofs.YtghelamfaaakcaaGreat.Sh
open Go Go.RowKit Go.Proofs.Ev
theorem bzNb : type_of% (And.intro @ld3 (And.intro @ld4 (And.intro @ld5 (And.intro @ld32 (And.intro @ld72 (And.intro @ld33 (And.intro @ld60 (And.intro @ld63 (And.intro (fun a h => conv_int (a := a) (h := h) u3 u60) (And.intro (fun a h => conv_int (a := a) (h := h) u60 u3) (And.intro (fun ox oy a b => bin_eql_bool (ox := ox) (oy := oy) (a := a) (b := b) u4) (And.intro (fun ox oy a b => bin_neq_bool (ox := ox) (oy := oy) (a := a) (b := b) u4) (And.intro @ex2_0 (@ex2_1)))))))))))))) := And.intro @ld3 (And.intro @ld4 (And.intro @ld5 (And.intro @ld32 (And.intro @ld72 (And.intro @ld33 (And.intro @ld60 (And.intro @ld63 (And.intro (fun a h => conv_int (a := a) (h := h) u3 u60) (And.intro (fun a h => conv_int (a := a) (h := h) u60 u3) (And.intro (fun ox oy a b => bin_eql_bool (ox := ox) (oy := oy) (a := a) (b := b) u4) (And.intro (fun ox oy a b => bin_neq_bool (ox := ox) (oy := oy) (a := a) (b := b) u4) (And.intro @ex2_0 (@ex2_1)))))))))))))
def formN (l : List Bool) : Nat := if cnt l = 0 then 0 else if cnt l = l.length then 1 else 2
def b2n (b : Bool) : Nat := if b then 1 else 0
def putV (l : List Bool) : List Nat := pvarN l.length ++ (formN l :: if formN l = 2 then putN 1 (l.map b2n) else [])
theorem f48c {k : Nat} {h : AH} {v : Value} {l : List Bool} (S : Bools h v l) (hl : l.length ≤ 2 ^ 40) (hk : l.length < k) : eInv env (k + 2) (.func 48) #[] #[v] h = some (.int .u8 (formN l : Int), h) := by
  have T : Tl (F48 (eInv env (k + 1)) (k + 1) v h) fun r => r = (.int .u8 (formN l : Int), h) := by
    unfold F48 formN
    have hlen : ∀ h', pLen Tryz.prog #[105] v h' = some (.int .i64 l.length) := fun h' => Sl1.len S u105
    have hc := f96c S hl hk
    by_cases e1 : cnt l = 0
    · rw [if_pos e1]
      repeat (first | (with_reducible apply qzV; simp (disch := omega) only [coreA, Int.reduceBEq, bzNb, hc] <;> with_reducible rfl) | (with_reducible first | apply qzT | apply qzF | apply qzG | apply qzH) | ((with_reducible first | apply qzB | apply qzC | apply qzD); simp (disch := omega) only [coreA, Int.reduceBEq, bzNb, hc] <;> with_reducible rfl))
      exact ⟨_, rfl, rfl⟩
    · rw [if_neg e1]
      by_cases e2 : cnt l = l.length
      · rw [if_pos e2]
        repeat (first | (with_reducible apply qzV; simp (disch := omega) only [coreA, Int.reduceBEq, bzNb, hc, hlen] <;> with_reducible rfl) | (with_reducible first | apply qzT | apply qzF | apply qzG | apply qzH) | ((with_reducible first | apply qzB | apply qzC | apply qzD); simp (disch := omega) only [coreA, Int.reduceBEq, bzNb, hc, hlen] <;> with_reducible rfl))
        exact ⟨_, rfl, rfl⟩
      · rw [if_neg e2]
        repeat (first | (with_reducible apply qzV; simp (disch := omega) only [coreA, Int.reduceBEq, bzNb, hc, hlen] <;> with_reducible rfl) | (with_reducible first | apply qzT | apply qzF | apply qzG | apply qzH) | ((with_reducible first | apply qzB | apply qzC | apply qzD); simp (disch := omega) only [coreA, Int.reduceBEq, bzNb, hc, hlen] <;> with_reducible rfl))
        exact ⟨_, rfl, rfl⟩
  obtain ⟨r, h1, h2⟩ := T
  rw [F48_call, h1, h2]
theorem f50_loop {β : Type} {k : Nat} {Q : β → Prop} {h0 : AH} {v ov : Value} {l : List Bool} (S : Bools h0 v l) (hl : l.length ≤ 2 ^ 30) {ke0 : Value → Value → Value → Value → Value → AH → Option β} (n : Nat) :
    ∀ {i j : Nat} {h : AH} {done : List Nat}, i + n = l.length → n < j → done.length = l.length → done = (l.take i).map b2n ++ List.replicate n 0 → Stt Tryz.prog h0.n h0 h [] [(ov, 1, u64rows done)] →
      (∀ h' y y', Stt Tryz.prog h0.n h0 h' [] [(ov, 1, u64rows (l.map b2n))] → Tl (ke0 ov v (.int .i64 l.length) y y' h') Q) →
      Tl (F50_lrlrr (eInv env k) k j ov v (.int .i64 l.length) (.int .i64 i) h ke0) Q := by
  induction n with
  | zero =>
    intro i j h done hi hj hd he T hk
    obtain ⟨j, rfl⟩ : ∃ q, j = q + 1 := ⟨j - 1, by omega⟩
    simp only [F50_lrlrr]
    repeat (first | (with_reducible apply qzV; simp (disch := omega) only [coreA, Int.reduceBEq, bzNb] <;> with_reducible rfl) | (with_reducible first | apply qzT | apply qzF | apply qzG | apply qzH) | ((with_reducible first | apply qzB | apply qzC | apply qzD); simp (disch := omega) only [coreA, Int.reduceBEq, bzNb] <;> with_reducible rfl))
    rw [List.take_of_length_le (by omega)] at he
    have : done = l.map b2n := by simpa using he
    subst this
    exact hk _ _ _ T
  | succ n ih =>
    intro i j h done hi hj hd he T hk
    obtain ⟨j, rfl⟩ : ∃ q, j = q + 1 := ⟨j - 1, by omega⟩
    obtain ⟨x, hx⟩ : ∃ x, l[i]? = some x := ⟨_, List.getElem?_eq_getElem (by omega)⟩
    obtain ⟨b, o, hp, hc1⟩ := Sl1.at_ (S.grow T.grow) (t := 105) (k := .i64) hx u105 sz4
    have hc1 := hc1 h (Grow.refl _)
    obtain ⟨bm, em, hm⟩ := T.idx (t := 63) 0 rfl (kd := .i64) (j := i) (by rw [u64rows_len]; omega) u63 sz60
    have e : (i : Int) + 1 = ((i + 1 : Nat) : Int) := by omega
    have hti : l.take (i + 1) = l.take i ++ [x] := by rw [List.take_add_one, hx]; rfl
    have hlt : ((l.take i).map b2n).length = i := by simp; omega
    simp only [F50_lrlrr]
    unfold F50_lrrllrlrr
    cases x
    · repeat (first | (with_reducible apply qzV; simp (disch := omega) only [coreA, Int.reduceBEq, bzNb, hp, hc1, bv] <;> with_reducible rfl) | (with_reducible first | apply qzT | apply qzF | apply qzG | apply qzH) | ((with_reducible first | apply qzB | apply qzC | apply qzD); simp (disch := omega) only [coreA, Int.reduceBEq, bzNb, hp, hc1, bv] <;> with_reducible rfl))
      rw [e]
      refine ih (done := done) (by omega) (by omega) hd ?_ T hk
      rw [hti, he, List.map_append, List.replicate_succ]
      simp [b2n]
    · repeat (first | (with_reducible apply qzV; simp (disch := omega) only [coreA, Int.reduceBEq, bzNb, hp, hc1, bv, hm] <;> with_reducible rfl) | (with_reducible first | apply qzT | apply qzF | apply qzG | apply qzH) | ((with_reducible first | apply qzB | apply qzC | apply qzD); simp (disch := omega) only [coreA, Int.reduceBEq, bzNb, hp, hc1, bv, hm] <;> with_reducible rfl))
      refine Tl.setAt T 0 rfl em (by rw [u64rows_len]; omega) rfl sz60 rfl fun h' T' => ?_
      repeat (first | (with_reducible apply qzV; simp (disch := omega) only [coreA, Int.reduceBEq, bzNb] <;> with_reducible rfl) | (with_reducible first | apply qzT | apply qzF | apply qzG | apply qzH) | ((with_reducible first | apply qzB | apply qzC | apply qzD); simp (disch := omega) only [coreA, Int.reduceBEq, bzNb] <;> with_reducible rfl))
      rw [e]
      refine ih (done := done.set i 1) (by omega) (by omega) (by simp [hd]) ?_ (by simpa [u64rows, u64v, List.map_set, Value.cells] using T') hk
      rw [hti, he, List.map_append, List.replicate_succ, List.set_append_right _ _ (by omega), hlt, Nat.sub_self]
      simp [b2n]
theorem f50c {k : Nat} {h : AH} {v : Value} {l : List Bool} (S : Bools h v l) (hl : l.length ≤ 2 ^ 30) (hk : l.length < k) :
    Tl (eInv env (k + 1) (.func 50) #[] #[v] h) fun r => OwnB Tryz.prog h.n r.2 r.1 1 (u64rows (l.map b2n)) ∧ Grow h r.2 := by
  rw [F50_call]
  unfold F50
  have hlen : ∀ h', pLen Tryz.prog #[105] v h' = some (.int .i64 l.length) := fun h' => Sl1.len S u105
  repeat (first | (with_reducible apply qzV; simp (disch := omega) only [coreA, Int.reduceBEq, bzNb, hlen] <;> with_reducible rfl) | (with_reducible first | apply qzT | apply qzF | apply qzG | apply qzH) | ((with_reducible first | apply qzB | apply qzC | apply qzD); simp (disch := omega) only [coreA, Int.reduceBEq, bzNb, hlen] <;> with_reducible rfl))
  refine Tl.make' (Stt.init h) app63 ze60 (by omega) (by omega) fun ov h1 S1 g1 => ?_
  have S1 : Stt Tryz.prog h.n h h1 [] [(ov, 1, u64rows (List.replicate l.length 0))] := by
    have e : u64rows (List.replicate l.length 0) = List.replicate l.length [.int .u64 0] := by simp [u64rows, u64v]
    rw [e]; exact S1
  repeat (first | (with_reducible apply qzV; simp (disch := omega) only [coreA, Int.reduceBEq, bzNb, hlen] <;> with_reducible rfl) | (with_reducible first | apply qzT | apply qzF | apply qzG | apply qzH) | ((with_reducible first | apply qzB | apply qzC | apply qzD); simp (disch := omega) only [coreA, Int.reduceBEq, bzNb, hlen] <;> with_reducible rfl))
  refine f50_loop S hl l.length (i := 0) (by omega) (by omega) (by simp) (by simp) S1 fun h' y y' T => ?_
  exact ⟨_, rfl, T.ret 0 rfl, T.grow⟩
theorem formN_le (l : List Bool) : formN l ≤ 2 := by unfold formN; split <;> (try split) <;> omega
theorem putV_len {l : List Bool} (hl : l.length ≤ 4096) : (putV l).length ≤ 600 := by
  have h1 := pvarN_le10 (n := l.length) (by omega)
  have h2 : (putN 1 (l.map b2n)).length ≤ 520 := by
    have := (putN_spec 1 (l.map b2n)).2.1
    rw [List.length_map] at this
    omega
  unfold putV
  split <;> simp <;> omega
theorem b2n_width (l : List Bool) : Pk.widthN (l.map b2n) ≤ 1 := by
  rw [Pk.width_le]
  intro x hx
  obtain ⟨b, _, rfl⟩ := List.mem_map.1 hx
  cases b <;> simp [b2n]
/-- 'Put'. -/
theorem f30c {k : Nat} {h : AH} {v : Value} {l : List Bool} (S : Bools h v l) (hl : l.length ≤ 4096) (hk : l.length < k) :
    Tl (eInv env (k + 500) (.func 30) #[] #[v] h) fun r => ∃ o, r.1 = .tuple #[o, .int .i64 0] ∧ Grow h r.2 ∧ OwnB Tryz.prog h.n r.2 o 1 (u8rows (putV l)) := by
  rw [F30_call]
  unfold F30
  have hlen : ∀ h', pLen Tryz.prog #[32] v h' = some (.int .i64 l.length) := fun h' => Sl1.len S u32
  repeat (first | (with_reducible apply qzV; simp (disch := omega) only [coreA, Int.reduceBEq, bzNb, hlen] <;> with_reducible rfl) | (with_reducible first | apply qzT | apply qzF | apply qzG | apply qzH) | ((with_reducible first | apply qzB | apply qzC | apply qzD); simp (disch := omega) only [coreA, Int.reduceBEq, bzNb, hlen] <;> with_reducible rfl))
  refine Tl.bind (f47c (k := k + 479) (l := []) l.length (by omega) (by simp) ((Stt.init h).nil 1 : Stt Tryz.prog h.n h h [] ((_, 1, u8rows []) :: []))) ?_
  rintro ⟨ov, h1⟩ S1
  simp only [List.nil_append] at S1
  have hf := f48c (k := k + 497) (S.grow S1.grow) (by omega) (by omega)
  have h10 := pvarN_le10 (n := l.length) (by omega)
  have hfl := formN_le l
  repeat (first | (with_reducible apply qzV; simp (disch := omega) only [coreA, Int.reduceBEq, bzNb, hf] <;> with_reducible rfl) | (with_reducible first | apply qzT | apply qzF | apply qzG | apply qzH) | ((with_reducible first | apply qzB | apply qzC | apply qzD); simp (disch := omega) only [coreA, Int.reduceBEq, bzNb, hf] <;> with_reducible rfl))
  refine Tl.push S1 0 rfl app33 (bs33 _ _) rfl rfl (by rw [u8rows_len]; omega) fun ov2 h2 S2 => ?_
  have hf2 := f48c (k := k + 497) (S.grow S2.grow) (by omega) (by omega)
  have e2 : u8rows (pvarN l.length) ++ [[.int .u8 (formN l : Int)]] = u8rows (pvarN l.length ++ [formN l]) := by simp [u8rows, u8v]
  have S2 : Stt Tryz.prog h.n h h2 [] [(ov2, 1, u8rows (pvarN l.length ++ [formN l]))] := by rw [← e2]; exact S2
  by_cases q : formN l = 2
  · repeat (first | (with_reducible apply qzV; simp (disch := omega) only [coreA, Int.reduceBEq, bzNb, hf2] <;> with_reducible rfl) | (with_reducible first | apply qzT | apply qzF | apply qzG | apply qzH) | ((with_reducible first | apply qzB | apply qzC | apply qzD); simp (disch := omega) only [coreA, Int.reduceBEq, bzNb, hf2] <;> with_reducible rfl))
    refine Tl.callO S2 (f50c (k := k + 498) (S.grow S2.grow) (by omega) (by omega)) fun wv h3 S3 g3 => ?_
    refine Tl.bind (f49c (k := k + 198) (S3.sl1 0 rfl) (by simp; omega) (by simp; omega) (fun x hx => ?_) 1) ?_
    · obtain ⟨b, _, rfl⟩ := List.mem_map.1 hx
      cases b <;> simp [b2n]
    rintro ⟨r, h4⟩ ⟨pv, er, g4, X⟩
    simp only at er g4 X
    subst er
    have pe : Pk.putE (l.map b2n) 1 = 0 := Pk.putE_of (W := 1) (by simp; omega) (by omega) (b2n_width l)
    have pl : Pk.putL (l.map b2n) 1 = putN 1 (l.map b2n) := by unfold Pk.putL; rw [if_pos pe]; rfl
    rw [pl] at X
    have S4 := S3.gain g4 X
    repeat (first | (with_reducible apply qzV; simp (disch := omega) only [coreA, Int.reduceBEq, bzNb, pe] <;> with_reducible rfl) | (with_reducible first | apply qzT | apply qzF | apply qzG | apply qzH) | ((with_reducible first | apply qzB | apply qzC | apply qzD); simp (disch := omega) only [coreA, Int.reduceBEq, bzNb, pe] <;> with_reducible rfl))
    have hpl : (putN 1 (l.map b2n)).length ≤ 520 := by
      have := (putN_spec 1 (l.map b2n)).2.1
      rw [List.length_map] at this
      omega
    refine Tl.append' S4 2 rfl app33 (S4.slV 0 rfl) (one_u8rows _) (by rw [u8rows_len, u8rows_len]; simp; omega) fun ov3 h5 S5 => ?_
    repeat (first | (with_reducible apply qzV; simp (disch := omega) only [coreA, Int.reduceBEq, bzNb] <;> with_reducible rfl) | (with_reducible first | apply qzT | apply qzF | apply qzG | apply qzH) | ((with_reducible first | apply qzB | apply qzC | apply qzD); simp (disch := omega) only [coreA, Int.reduceBEq, bzNb] <;> with_reducible rfl))
    refine ⟨_, rfl, ov3, rfl, S5.grow, ?_⟩
    have := S5.ret 2 rfl
    have e3 : u8rows (pvarN l.length ++ [formN l]) ++ u8rows (putN 1 (l.map b2n)) = u8rows (putV l) := by
      unfold putV
      rw [if_pos q]
      simp [u8rows]
    rw [e3] at this
    exact this
  · repeat (first | (with_reducible apply qzV; simp (disch := omega) only [coreA, Int.reduceBEq, bzNb, hf2] <;> with_reducible rfl) | (with_reducible first | apply qzT | apply qzF | apply qzG | apply qzH) | ((with_reducible first | apply qzB | apply qzC | apply qzD); simp (disch := omega) only [coreA, Int.reduceBEq, bzNb, hf2] <;> with_reducible rfl))
    refine ⟨_, rfl, ov2, rfl, S2.grow, ?_⟩
    have := S2.ret 0 rfl
    have e3 : pvarN l.length ++ [formN l] = putV l := by
      unfold putV
      rw [if_neg q]
    rw [e3] at this
    exact this
end Go.Proofs.YtghelamfaaakcaaGreat.Sh
