/- The document's answer for flags: 'Count', 'Put'. -/
import Derived.Test.YtghelamfaaakcaaGreatSzNb
import Derived.Test.YtghelamfaaakcaaGreatSzRp
import Derived.Test.YtghelamfaaakcaaGreatSzRa
set_option linter.unusedVariables false
set_option linter.unusedSimpArgs false
set_option maxRecDepth 100000
namespace Go.Proofs.YtghelamfaaakcaaGreat.Sh
open Go Go.RowKit Go.Proofs.Ev
theorem bzNf : type_of% (And.intro @ld3 (And.intro @ld4 (And.intro @ld5 (And.intro @ld32 (And.intro @ld72 (And.intro @ld33 (And.intro @ld60 (And.intro @ld63 (And.intro (fun a h => conv_int (a := a) (h := h) u3 u60) (And.intro (fun a h => conv_int (a := a) (h := h) u60 u3) (And.intro (fun a h => conv_int (a := a) (h := h) u3 u109) (And.intro (fun a h => conv_int (a := a) (h := h) u109 u3) (And.intro (fun ox oy a b => bin_eql_bool (ox := ox) (oy := oy) (a := a) (b := b) u4) (And.intro (fun ox oy a b => bin_neq_bool (ox := ox) (oy := oy) (a := a) (b := b) u4) (And.intro @ex2_0 (And.intro @ex2_1 (And.intro @ex3_0 (And.intro @ex3_1 (@ex3_2))))))))))))))))))) := And.intro @ld3 (And.intro @ld4 (And.intro @ld5 (And.intro @ld32 (And.intro @ld72 (And.intro @ld33 (And.intro @ld60 (And.intro @ld63 (And.intro (fun a h => conv_int (a := a) (h := h) u3 u60) (And.intro (fun a h => conv_int (a := a) (h := h) u60 u3) (And.intro (fun a h => conv_int (a := a) (h := h) u3 u109) (And.intro (fun a h => conv_int (a := a) (h := h) u109 u3) (And.intro (fun ox oy a b => bin_eql_bool (ox := ox) (oy := oy) (a := a) (b := b) u4) (And.intro (fun ox oy a b => bin_neq_bool (ox := ox) (oy := oy) (a := a) (b := b) u4) (And.intro @ex2_0 (And.intro @ex2_1 (And.intro @ex3_0 (And.intro @ex3_1 (@ex3_2))))))))))))))))))
theorem take_snoc {α : Type} {l : List α} {i : Nat} {x : α} (hx : l[i]? = some x) : l.take (i + 1) = l.take i ++ [x] := by rw [List.take_add_one, hx]; rfl
theorem f33_loop {β : Type} {k : Nat} {Q : β → Prop} {h : AH} {v : Value} {l : List Bool} (S : Bools h v l) (hl : l.length ≤ 2 ^ 30) {ke0 : Value → Value → Value → Value → AH → Option β} (n : Nat) :
    ∀ {i j : Nat}, i + n = l.length → n < j → (∀ y y', Tl (ke0 v (.int .i64 (cnt l)) y y' h) Q) → Tl (F33_lrlrr (eInv env k) k j v (.int .i64 (cnt (l.take i))) (.int .i64 i) h ke0) Q := by
  have hlen : ∀ h', pLen Tryz.prog #[32] v h' = some (.int .i64 l.length) := fun h' => Sl1.len S u32
  induction n with
  | zero =>
    intro i j hi hj hk
    obtain ⟨j, rfl⟩ : ∃ q, j = q + 1 := ⟨j - 1, by omega⟩
    simp only [F33_lrlrr]
    repeat (first | (with_reducible apply qzV; simp (disch := omega) only [coreA, Int.reduceBEq, bzNf, hlen] <;> with_reducible rfl) | (with_reducible first | apply qzT | apply qzF | apply qzG | apply qzH) | ((with_reducible first | apply qzB | apply qzC | apply qzD); simp (disch := omega) only [coreA, Int.reduceBEq, bzNf, hlen] <;> with_reducible rfl))
    rw [List.take_of_length_le (by omega)]
    exact hk _ _
  | succ n ih =>
    intro i j hi hj hk
    obtain ⟨j, rfl⟩ : ∃ q, j = q + 1 := ⟨j - 1, by omega⟩
    obtain ⟨x, hx⟩ : ∃ x, l[i]? = some x := ⟨_, List.getElem?_eq_getElem (by omega)⟩
    obtain ⟨b, o, hp, hc1⟩ := Sl1.at_ S (t := 32) (k := .i64) hx u32 sz4
    have hc1 := hc1 h (Grow.refl _)
    have e : (i : Int) + 1 = ((i + 1 : Nat) : Int) := by omega
    have hti := take_snoc hx
    have hcl := cnt_le (l.take i)
    rw [List.length_take] at hcl
    have go := ih (i := i + 1) (j := j) (by omega) (by omega) hk
    rw [hti] at go
    simp only [F33_lrlrr]
    unfold F33_lrllrlrr
    repeat (first | (with_reducible apply qzV; simp (disch := omega) only [coreA, Int.reduceBEq, bzNf, hlen, hp, hc1, bv] <;> with_reducible rfl) | (with_reducible first | apply qzT | apply qzF | apply qzG | apply qzH) | ((with_reducible first | apply qzB | apply qzC | apply qzD); simp (disch := omega) only [coreA, Int.reduceBEq, bzNf, hlen, hp, hc1, bv] <;> with_reducible rfl))
    cases x
    · have ec : cnt (l.take i ++ [false]) = cnt (l.take i) := by unfold cnt; simp
      rw [ec] at go
      repeat (first | (with_reducible apply qzV; simp (disch := omega) only [coreA, Int.reduceBEq, bzNf] <;> with_reducible rfl) | (with_reducible first | apply qzT | apply qzF | apply qzG | apply qzH) | ((with_reducible first | apply qzB | apply qzC | apply qzD); simp (disch := omega) only [coreA, Int.reduceBEq, bzNf] <;> with_reducible rfl))
      rw [e]
      exact go
    · have ec : ((cnt (l.take i ++ [true]) : Nat) : Int) = (cnt (l.take i) : Int) + 1 := by unfold cnt; simp
      rw [ec] at go
      repeat (first | (with_reducible apply qzV; simp (disch := omega) only [coreA, Int.reduceBEq, bzNf] <;> with_reducible rfl) | (with_reducible first | apply qzT | apply qzF | apply qzG | apply qzH) | ((with_reducible first | apply qzB | apply qzC | apply qzD); simp (disch := omega) only [coreA, Int.reduceBEq, bzNf] <;> with_reducible rfl))
      rw [e]
      exact go
theorem f33c {k : Nat} {h : AH} {v : Value} {l : List Bool} (S : Bools h v l) (hl : l.length ≤ 2 ^ 30) (hk : l.length < k) : eInv env (k + 1) (.func 33) #[] #[v] h = some (.int .i64 (cnt l), h) := by
  have T : Tl (F33 (eInv env k) k v h) fun r => r = (.int .i64 (cnt l), h) := by
    unfold F33
    exact f33_loop S hl l.length (i := 0) (by omega) (by omega) fun y y' => ⟨_, rfl, rfl⟩
  obtain ⟨r, h1, h2⟩ := T
  rw [F33_call, h1, h2]
theorem f35_loop {β : Type} {k : Nat} {Q : β → Prop} {h0 : AH} {v ov : Value} {l : List Bool} (S : Bools h0 v l) (hl : l.length ≤ 2 ^ 30) {ke0 : Value → Value → Value → Value → AH → Option β} (n : Nat) :
    ∀ {i j : Nat} {h : AH} {done : List Nat}, i + n = l.length → n < j → done.length = l.length → done = (l.take i).map b2n ++ List.replicate n 0 → Stt Tryz.prog h0.n h0 h [] [(ov, 1, u64rows done)] →
      (∀ h' y y', Stt Tryz.prog h0.n h0 h' [] [(ov, 1, u64rows (l.map b2n))] → Tl (ke0 v ov y y' h') Q) →
      Tl (F35_lrlrr (eInv env k) k j v ov (.int .i64 i) h ke0) Q := by
  have hlen : ∀ h', pLen Tryz.prog #[32] v h' = some (.int .i64 l.length) := fun h' => Sl1.len S u32
  induction n with
  | zero =>
    intro i j h done hi hj hd he T hk
    obtain ⟨j, rfl⟩ : ∃ q, j = q + 1 := ⟨j - 1, by omega⟩
    simp only [F35_lrlrr]
    repeat (first | (with_reducible apply qzV; simp (disch := omega) only [coreA, Int.reduceBEq, bzNf, hlen] <;> with_reducible rfl) | (with_reducible first | apply qzT | apply qzF | apply qzG | apply qzH) | ((with_reducible first | apply qzB | apply qzC | apply qzD); simp (disch := omega) only [coreA, Int.reduceBEq, bzNf, hlen] <;> with_reducible rfl))
    rw [List.take_of_length_le (by omega)] at he
    have : done = l.map b2n := by simpa using he
    subst this
    exact hk _ _ _ T
  | succ n ih =>
    intro i j h done hi hj hd he T hk
    obtain ⟨j, rfl⟩ : ∃ q, j = q + 1 := ⟨j - 1, by omega⟩
    obtain ⟨x, hx⟩ : ∃ x, l[i]? = some x := ⟨_, List.getElem?_eq_getElem (by omega)⟩
    obtain ⟨b, o, hp, hc1⟩ := Sl1.at_ (S.grow T.grow) (t := 32) (k := .i64) hx u32 sz4
    have hc1 := hc1 h (Grow.refl _)
    obtain ⟨bm, em, hm⟩ := T.idx (t := 63) 0 rfl (kd := .i64) (j := i) (by rw [u64rows_len]; omega) u63 sz60
    have e : (i : Int) + 1 = ((i + 1 : Nat) : Int) := by omega
    have hti : l.take (i + 1) = l.take i ++ [x] := by rw [List.take_add_one, hx]; rfl
    have hlt : ((l.take i).map b2n).length = i := by simp; omega
    simp only [F35_lrlrr]
    unfold F35_lrllrlrr
    cases x
    · repeat (first | (with_reducible apply qzV; simp (disch := omega) only [coreA, Int.reduceBEq, bzNf, hlen, hp, hc1, bv] <;> with_reducible rfl) | (with_reducible first | apply qzT | apply qzF | apply qzG | apply qzH) | ((with_reducible first | apply qzB | apply qzC | apply qzD); simp (disch := omega) only [coreA, Int.reduceBEq, bzNf, hlen, hp, hc1, bv] <;> with_reducible rfl))
      rw [e]
      refine ih (done := done) (by omega) (by omega) hd ?_ T hk
      rw [hti, he, List.map_append, List.replicate_succ]
      simp [b2n]
    · repeat (first | (with_reducible apply qzV; simp (disch := omega) only [coreA, Int.reduceBEq, bzNf, hlen, hp, hc1, bv, hm] <;> with_reducible rfl) | (with_reducible first | apply qzT | apply qzF | apply qzG | apply qzH) | ((with_reducible first | apply qzB | apply qzC | apply qzD); simp (disch := omega) only [coreA, Int.reduceBEq, bzNf, hlen, hp, hc1, bv, hm] <;> with_reducible rfl))
      refine Tl.setAt T 0 rfl em (by rw [u64rows_len]; omega) rfl sz60 rfl fun h' T' => ?_
      repeat (first | (with_reducible apply qzV; simp (disch := omega) only [coreA, Int.reduceBEq, bzNf] <;> with_reducible rfl) | (with_reducible first | apply qzT | apply qzF | apply qzG | apply qzH) | ((with_reducible first | apply qzB | apply qzC | apply qzD); simp (disch := omega) only [coreA, Int.reduceBEq, bzNf] <;> with_reducible rfl))
      rw [e]
      refine ih (done := done.set i 1) (by omega) (by omega) (by simp [hd]) ?_ (by simpa [u64rows, u64v, List.map_set, Value.cells] using T') hk
      rw [hti, he, List.map_append, List.replicate_succ, List.set_append_right _ _ (by omega), hlt, Nat.sub_self]
      simp [b2n]
theorem f35c {k : Nat} {h : AH} {v : Value} {l : List Bool} (S : Bools h v l) (hl : l.length ≤ 2 ^ 30) (hk : l.length < k) :
    Tl (eInv env (k + 1) (.func 35) #[] #[v] h) fun r => OwnB Tryz.prog h.n r.2 r.1 1 (u64rows (l.map b2n)) ∧ Grow h r.2 := by
  rw [F35_call]
  unfold F35
  have hlen : ∀ h', pLen Tryz.prog #[32] v h' = some (.int .i64 l.length) := fun h' => Sl1.len S u32
  repeat (first | (with_reducible apply qzV; simp (disch := omega) only [coreA, Int.reduceBEq, bzNf, hlen] <;> with_reducible rfl) | (with_reducible first | apply qzT | apply qzF | apply qzG | apply qzH) | ((with_reducible first | apply qzB | apply qzC | apply qzD); simp (disch := omega) only [coreA, Int.reduceBEq, bzNf, hlen] <;> with_reducible rfl))
  refine Tl.make' (Stt.init h) app63 ze60 (by omega) (by omega) fun ov h1 S1 g1 => ?_
  have S1 : Stt Tryz.prog h.n h h1 [] [(ov, 1, u64rows (List.replicate l.length 0))] := by
    have e : u64rows (List.replicate l.length 0) = List.replicate l.length [.int .u64 0] := by simp [u64rows, u64v]
    rw [e]; exact S1
  refine f35_loop S hl l.length (i := 0) (by omega) (by omega) (by simp) (by simp) S1 fun h' y y' T => ?_
  exact ⟨_, rfl, T.ret 0 rfl, T.grow⟩
theorem psPut {k : Nat} {h : AH} {v : Value} {l : List Nat} (A : Words h v l) (hl : l.length ≤ 65536) (hlk : l.length < k) (hx : ∀ x ∈ l, x < 18446744073709551616) (n : Int) :
    Tl (eInv env (k + 101) (.func 34) #[] #[v, .int .i64 n] h) fun r => ∃ o, r.1 = .tuple #[o, .int .i64 (Pk.putE l n)] ∧ Grow h r.2 ∧ OwnB Tryz.prog h.n r.2 o 1 (u8rows (Pk.putL l n)) := by
  have := Pk.f17c (k := k) A.pk hl hlk hx n
  rw [pk_brow] at this
  exact this
theorem f14c {k : Nat} {h : AH} {v : Value} {l : List Bool} (S : Bools h v l) (hl : l.length ≤ 4096) (hk : l.length < k) :
    Tl (eInv env (k + 500) (.func 14) #[] #[v] h) fun r => ∃ o, r.1 = .tuple #[o, .int .i64 0] ∧ Grow h r.2 ∧ OwnB Tryz.prog h.n r.2 o 1 (u8rows (putV l)) := by
  rw [F14_call]
  unfold F14
  have hlen : ∀ h', pLen Tryz.prog #[32] v h' = some (.int .i64 l.length) := fun h' => Sl1.len S u32
  repeat (first | (with_reducible apply qzV; simp (disch := omega) only [coreA, Int.reduceBEq, bzNf, hlen] <;> with_reducible rfl) | (with_reducible first | apply qzT | apply qzF | apply qzG | apply qzH) | ((with_reducible first | apply qzB | apply qzC | apply qzD); simp (disch := omega) only [coreA, Int.reduceBEq, bzNf, hlen] <;> with_reducible rfl))
  refine Tl.bind (f32c (k := k + 479) (l := []) l.length (by omega) (by simp) ((Stt.init h).nil 1 : Stt Tryz.prog h.n h h [] ((_, 1, u8rows []) :: []))) ?_
  rintro ⟨ov, h1⟩ S1
  simp only [List.nil_append] at S1
  have hc := f33c (k := k + 498) (S.grow S1.grow) (by omega) (by omega)
  have h10 := pvarN_le10 (n := l.length) (by omega)
  have e2 : ∀ f : Nat, u8rows (pvarN l.length) ++ [[.int .u8 (f : Int)]] = u8rows (pvarN l.length ++ [f]) := fun f => by simp [u8rows, u8v]
  by_cases c0 : cnt l = 0
  · have ef : putV l = pvarN l.length ++ [0] := by unfold putV formN; rw [if_pos c0]; simp
    repeat (first | (with_reducible apply qzV; simp (disch := omega) only [coreA, Int.reduceBEq, bzNf, hc] <;> with_reducible rfl) | (with_reducible first | apply qzT | apply qzF | apply qzG | apply qzH) | ((with_reducible first | apply qzB | apply qzC | apply qzD); simp (disch := omega) only [coreA, Int.reduceBEq, bzNf, hc] <;> with_reducible rfl))
    refine Tl.push S1 0 rfl app33 (bs33 _ _) rfl rfl (by rw [u8rows_len]; omega) fun ov2 h2 S2 => ?_
    repeat (first | (with_reducible apply qzV; simp (disch := omega) only [coreA, Int.reduceBEq, bzNf] <;> with_reducible rfl) | (with_reducible first | apply qzT | apply qzF | apply qzG | apply qzH) | ((with_reducible first | apply qzB | apply qzC | apply qzD); simp (disch := omega) only [coreA, Int.reduceBEq, bzNf] <;> with_reducible rfl))
    refine ⟨_, rfl, ov2, rfl, S2.grow, ?_⟩
    rw [ef, ← e2 0]
    exact S2.ret 0 rfl
  · by_cases c1 : cnt l = l.length
    · have ef : putV l = pvarN l.length ++ [1] := by unfold putV formN; rw [if_neg c0, if_pos c1]; simp
      repeat (first | (with_reducible apply qzV; simp (disch := omega) only [coreA, Int.reduceBEq, bzNf, hc, hlen] <;> with_reducible rfl) | (with_reducible first | apply qzT | apply qzF | apply qzG | apply qzH) | ((with_reducible first | apply qzB | apply qzC | apply qzD); simp (disch := omega) only [coreA, Int.reduceBEq, bzNf, hc, hlen] <;> with_reducible rfl))
      refine Tl.push S1 0 rfl app33 (bs33 _ _) rfl rfl (by rw [u8rows_len]; omega) fun ov2 h2 S2 => ?_
      repeat (first | (with_reducible apply qzV; simp (disch := omega) only [coreA, Int.reduceBEq, bzNf] <;> with_reducible rfl) | (with_reducible first | apply qzT | apply qzF | apply qzG | apply qzH) | ((with_reducible first | apply qzB | apply qzC | apply qzD); simp (disch := omega) only [coreA, Int.reduceBEq, bzNf] <;> with_reducible rfl))
      refine ⟨_, rfl, ov2, rfl, S2.grow, ?_⟩
      rw [ef, ← e2 1]
      exact S2.ret 0 rfl
    · have ef : putV l = pvarN l.length ++ [2] ++ putN 1 (l.map b2n) := by unfold putV formN; rw [if_neg c0, if_neg c1]; simp
      repeat (first | (with_reducible apply qzV; simp (disch := omega) only [coreA, Int.reduceBEq, bzNf, hc, hlen] <;> with_reducible rfl) | (with_reducible first | apply qzT | apply qzF | apply qzG | apply qzH) | ((with_reducible first | apply qzB | apply qzC | apply qzD); simp (disch := omega) only [coreA, Int.reduceBEq, bzNf, hc, hlen] <;> with_reducible rfl))
      refine Tl.callO S1 (f35c (k := k + 498) (S.grow S1.grow) (by omega) (by omega)) fun wv h3 S3 g3 => ?_
      refine Tl.bind (psPut (k := k + 398) (S3.sl1 0 rfl) (by simp; omega) (by simp; omega) (fun x hx => ?_) 1) ?_
      · obtain ⟨b, _, rfl⟩ := List.mem_map.1 hx
        cases b <;> simp [b2n]
      rintro ⟨r, h4⟩ ⟨pv, er, g4, X⟩
      simp only at er g4 X
      subst er
      have pe : Pk.putE (l.map b2n) 1 = 0 := Pk.putE_of (W := 1) (by simp; omega) (by omega) (b2n_width l)
      have pl : Pk.putL (l.map b2n) 1 = putN 1 (l.map b2n) := by unfold Pk.putL; rw [if_pos pe]; rfl
      rw [pl] at X
      have S4 := S3.gain g4 X
      repeat (first | (with_reducible apply qzV; simp (disch := omega) only [coreA, Int.reduceBEq, bzNf] <;> with_reducible rfl) | (with_reducible first | apply qzT | apply qzF | apply qzG | apply qzH) | ((with_reducible first | apply qzB | apply qzC | apply qzD); simp (disch := omega) only [coreA, Int.reduceBEq, bzNf] <;> with_reducible rfl))
      refine Tl.push S4 2 rfl app33 (bs33 _ _) rfl rfl (by rw [u8rows_len]; omega) fun ov2 h5 S5 => ?_
      have hpl : (putN 1 (l.map b2n)).length ≤ 520 := by
        have := (putN_spec 1 (l.map b2n)).2.1
        rw [List.length_map] at this
        omega
      have S5 : Stt Tryz.prog h.n h h5 [] [(pv, 1, u8rows (putN 1 (l.map b2n))), (wv, 1, u64rows (l.map b2n)), (ov2, 1, u8rows (pvarN l.length ++ [2]))] := by
        rw [← e2 2]; exact S5
      refine Tl.append' S5 2 rfl app33 (S5.slV 0 rfl) (one_u8rows _) (by rw [u8rows_len, u8rows_len]; simp; omega) fun ov3 h6 S6 => ?_
      repeat (first | (with_reducible apply qzV; simp (disch := omega) only [coreA, Int.reduceBEq, bzNf] <;> with_reducible rfl) | (with_reducible first | apply qzT | apply qzF | apply qzG | apply qzH) | ((with_reducible first | apply qzB | apply qzC | apply qzD); simp (disch := omega) only [coreA, Int.reduceBEq, bzNf] <;> with_reducible rfl))
      refine ⟨_, rfl, ov3, rfl, S6.grow, ?_⟩
      have R := S6.ret 2 rfl
      have e3 : u8rows (pvarN l.length ++ [2]) ++ u8rows (putN 1 (l.map b2n)) = u8rows (putV l) := by
        rw [ef]; simp [u8rows]
      rw [e3] at R
      exact R
end Go.Proofs.YtghelamfaaakcaaGreat.Sh
