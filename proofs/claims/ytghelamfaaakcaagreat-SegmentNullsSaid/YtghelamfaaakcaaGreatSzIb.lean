/- What the functions of the ints' package come to: 'Packed', 'Put'. -/
import Derived.Test.YtghelamfaaakcaaGreatSzIa
set_option linter.unusedVariables false
set_option linter.unusedSimpArgs false
set_option maxRecDepth 100000
namespace Go.Proofs.YtghelamfaaakcaaGreat.Sh
open Go Go.RowKit Go.Proofs.Ev
theorem bzIb : type_of% (And.intro @ld3 (And.intro @ld2 (And.intro @ld4 (And.intro @ld5 (And.intro @ld60 (And.intro @ld33 (And.intro @ld121 (And.intro @ld63 (And.intro @ld153 (And.intro @ld158 (And.intro @fa158_0 (And.intro @fa158_1 (And.intro @fa158_2 (And.intro (fun a h => conv_int (a := a) (h := h) u3 u60) (And.intro (fun a h => conv_int (a := a) (h := h) u2 u60) (And.intro (fun a h => conv_int (a := a) (h := h) u60 u5) (And.intro (fun a h => conv_int (a := a) (h := h) u60 u2) (And.intro (fun a h => conv_int (a := a) (h := h) u3 u5) (And.intro @ex2_0 (@ex2_1)))))))))))))))))))) := And.intro @ld3 (And.intro @ld2 (And.intro @ld4 (And.intro @ld5 (And.intro @ld60 (And.intro @ld33 (And.intro @ld121 (And.intro @ld63 (And.intro @ld153 (And.intro @ld158 (And.intro @fa158_0 (And.intro @fa158_1 (And.intro @fa158_2 (And.intro (fun a h => conv_int (a := a) (h := h) u3 u60) (And.intro (fun a h => conv_int (a := a) (h := h) u2 u60) (And.intro (fun a h => conv_int (a := a) (h := h) u60 u5) (And.intro (fun a h => conv_int (a := a) (h := h) u60 u2) (And.intro (fun a h => conv_int (a := a) (h := h) u3 u5) (And.intro @ex2_0 (@ex2_1)))))))))))))))))))
theorem f148c {k : Nat} {h : AH} {v : Value} {l : List Int} (A : Ints h v l) (hl : l.length ≤ 4096) (hk : l.length < k) :
    Tl (eInv env (k + 500) (.func 148) #[] #[v] h) fun r => ∃ o, r.1 = .tuple #[o, .int .i64 0] ∧ Grow h r.2 ∧ OwnB Tryz.prog h.n r.2 o 1 (u8rows (packB l)) := by
  rw [F148_call]
  unfold F148
  have hv : ∀ h', pLen Tryz.prog #[121] v h' = some (.int .i64 l.length) := fun h' => Sl1.len A u121
  have h10 := pvarN_le10 (n := l.length) (by omega)
  have hw := widI_le l
  -- behind the least one
  have go : Tl (F148_lrlrrrrr (eInv env (k + 499)) (k + 499) (k + 499) v (.int .i64 (minI l)) (.slice none 0 0) v (.int .i64 l.length) (.int .i64 0) h
      (fun y0_1 y4_2 y5 y20 y21 y22 y23 h_3 =>
    Ev.bnd (eInv env (k + 499) (.func 98) #[] #[y5] h_3) fun x36 =>
    Ev.bnd (eInv env (k + 499) (.func 49) #[] #[y5, x36.1] x36.2) fun x40 =>
    Ev.bnd (pExtract x40.1 0) fun x41 =>
    Ev.bnd (pExtract x40.1 1) fun x42 =>
    Ev.bnd (pBin Tryz.prog .neq 25 (.tmp 43) (.const (.int .i64 0)) x42 (.int .i64 0)) fun x44 =>
    brV x44
    (some (Value.tuple #[(Value.slice none 0 0), x42], x40.2))
    (Ev.bnd (pLen Tryz.prog #[121] y0_1 x40.2) fun x47 =>
    Ev.bnd (eInv env (k + 499) (.func 164) #[] #[(.int .u8 3), x47] x40.2) fun x48 =>
    Ev.bnd (pConv Tryz.prog 2 60 y4_2 x48.2) fun x50 =>
    Ev.bnd (eInv env (k + 499) (.func 75) #[] #[x48.1, x50, (.int .i64 8)] x48.2) fun x51 =>
    Ev.bnd (pConv Tryz.prog 3 5 x36.1 x51.2) fun x54 =>
    Ev.bnd (pBuildSlice Tryz.prog 33 1 #[(0, x54)] x51.2) fun x55 =>
    Ev.bnd (pAppend Tryz.prog #[33, 33] x51.1 x55.1 x55.2) fun x56 =>
    Ev.bnd (pAppend Tryz.prog #[33, 33] x56.1 x41 x56.2) fun x58 =>
    some (Value.tuple #[x58.1, (.int .i64 0)], x58.2)))) fun r => ∃ o, r.1 = .tuple #[o, .int .i64 0] ∧ Grow h r.2 ∧ OwnB Tryz.prog h.n r.2 o 1 (u8rows (packB l)) := by
    refine f148_loop A (by omega) l.length (i := 0) (done := []) (by omega) (by omega) rfl ((Stt.init h).nil 1) fun h1 ov y y' S1 => ?_
    simp only [List.drop_zero, List.nil_append] at S1
    have S1 : Stt Tryz.prog h.n h h1 [] [(ov, 1, u64rows (moreI l))] := S1
    have ml : (moreI l).length = l.length := by simp [moreI]
    have W : Words h1 ov (moreI l) := S1.sl1 0 rfl
    have wid := Pk.f15c (k := k + 497) W.pk (by omega) (moreI_lt l) (by omega)
    have wid : eInv env (k + 499) (.func 98) #[] #[ov] h1 = some (.int .i64 (widI l), h1) := wid
    repeat (first | (with_reducible apply qzV; simp (disch := omega) only [coreA, Int.reduceBEq, bzIb, wid] <;> with_reducible rfl) | (with_reducible first | apply qzT | apply qzF | apply qzG | apply qzH) | ((with_reducible first | apply qzB | apply qzC | apply qzD); simp (disch := omega) only [coreA, Int.reduceBEq, bzIb, wid] <;> with_reducible rfl))
    refine Tl.bind (f49c (k := k + 198) W (by omega) (by omega) (moreI_lt l) (widI l : Int)) ?_
    rintro ⟨r, h2⟩ ⟨pv, er, g2, X⟩
    simp only at er g2 X
    subst er
    have pe : Pk.putE (moreI l) (widI l : Int) = 0 := Pk.putE_of (W := widI l) (by omega) hw (Nat.le_refl _)
    have pl : Pk.putL (moreI l) (widI l : Int) = putN (widI l) (moreI l) := by unfold Pk.putL; rw [if_pos pe]; rfl
    rw [pl] at X
    have S2 := S1.gain g2 X
    repeat (first | (with_reducible apply qzV; simp (disch := omega) only [coreA, Int.reduceBEq, bzIb, pe, hv] <;> with_reducible rfl) | (with_reducible first | apply qzT | apply qzF | apply qzG | apply qzH) | ((with_reducible first | apply qzB | apply qzC | apply qzD); simp (disch := omega) only [coreA, Int.reduceBEq, bzIb, pe, hv] <;> with_reducible rfl))
    refine Tl.bind (f164c (k := k + 478) (f := 3) (n := l.length) (by omega) S2) ?_
    rintro ⟨hv2, h3⟩ S3
    simp only at S3
    repeat (first | (with_reducible apply qzV; simp (disch := omega) only [coreA, Int.reduceBEq, bzIb, wrapU] <;> with_reducible rfl) | (with_reducible first | apply qzT | apply qzF | apply qzG | apply qzH) | ((with_reducible first | apply qzB | apply qzC | apply qzD); simp (disch := omega) only [coreA, Int.reduceBEq, bzIb, wrapU] <;> with_reducible rfl))
    refine Tl.bind (f75c (k := k + 479) (toU (minI l)) (by unfold headB; simp; omega) S3) ?_
    rintro ⟨hv3, h4⟩ S4
    simp only at S4
    repeat (first | (with_reducible apply qzV; simp (disch := omega) only [coreA, Int.reduceBEq, bzIb] <;> with_reducible rfl) | (with_reducible first | apply qzT | apply qzF | apply qzG | apply qzH) | ((with_reducible first | apply qzB | apply qzC | apply qzD); simp (disch := omega) only [coreA, Int.reduceBEq, bzIb] <;> with_reducible rfl))
    refine Tl.push S4 0 rfl app33 (bs33 _ _) rfl rfl (by rw [u8rows_len]; unfold headB; simp [le_len]; omega) fun hv4 h5 S5 => ?_
    have S5 : Stt Tryz.prog h.n h h5 [] [(hv4, 1, u8rows (headB 3 l.length ++ le (toU (minI l)) 0 8) ++ [[.int .u8 (widI l : Int)]]), (pv, 1, u8rows (putN (widI l) (moreI l))), (ov, 1, u64rows (moreI l))] := S5
    have hpl := putN_len (w := widI l) ml hw (by omega)
    refine Tl.append' S5 0 rfl app33 (S5.slV 1 rfl) (one_u8rows _) (by rw [List.length_append, u8rows_len, u8rows_len]; unfold headB; simp [le_len]; omega) fun hv5 h6 S6 => ?_
    repeat (first | (with_reducible apply qzV; simp (disch := omega) only [coreA, Int.reduceBEq, bzIb] <;> with_reducible rfl) | (with_reducible first | apply qzT | apply qzF | apply qzG | apply qzH) | ((with_reducible first | apply qzB | apply qzC | apply qzD); simp (disch := omega) only [coreA, Int.reduceBEq, bzIb] <;> with_reducible rfl))
    refine ⟨_, rfl, hv5, rfl, S6.grow, ?_⟩
    have R := S6.ret 0 rfl
    have e3 : u8rows (headB 3 l.length ++ le (toU (minI l)) 0 8) ++ [[.int .u8 (widI l : Int)]] ++ u8rows (putN (widI l) (moreI l)) = u8rows (packB l) := by
      unfold packB
      simp [u8rows, u8v]
    rw [e3] at R
    exact R
  by_cases q : l = []
  · subst q
    unfold F148_rlrrr
    repeat (first | (with_reducible apply qzV; simp (disch := omega) only [coreA, Int.reduceBEq, bzIb, hv, List.length_nil, Int.ofNat_zero] <;> with_reducible rfl) | (with_reducible first | apply qzT | apply qzF | apply qzG | apply qzH) | ((with_reducible first | apply qzB | apply qzC | apply qzD); simp (disch := omega) only [coreA, Int.reduceBEq, bzIb, hv, List.length_nil, Int.ofNat_zero] <;> with_reducible rfl))
    exact go
  · have hpos := List.length_pos_iff.2 q
    have mn := f166c (k := k + 498) A q (by omega) (by omega)
    unfold F148_rlrrr
    repeat (first | (with_reducible apply qzV; simp (disch := omega) only [coreA, Int.reduceBEq, bzIb, hv, mn] <;> with_reducible rfl) | (with_reducible first | apply qzT | apply qzF | apply qzG | apply qzH) | ((with_reducible first | apply qzB | apply qzC | apply qzD); simp (disch := omega) only [coreA, Int.reduceBEq, bzIb, hv, mn] <;> with_reducible rfl))
    exact go
/-! ### 'Put': the shortest -/
def shorter (m x : Value × List Nat) : Value × List Nat := if x.2.length < m.2.length then x else m
def cmpN (a b : Int) : Int := if a < b then -1 else if a > b then 1 else 0
theorem f124c {k : Nat} (a b : Int) (h : AH) : eInv env (k + 2) (.func 124) #[] #[.int .i64 a, .int .i64 b] h = some (.int .i64 (cmpN a b), h) := by
  have nan : ∀ z : Int, eInv env (k + 1) (.func 150) #[] #[.int .i64 z] h = some (.bool false, h) := fun z => by
    rw [F150_call]
    unfold F150
    simp only [bin_neq, bnd_some, bne_self_eq_false]
  have T : Tl (F124 (eInv env (k + 1)) (k + 1) (.int .i64 a) (.int .i64 b) h) fun r => r = (.int .i64 (cmpN a b), h) := by
    unfold F124 cmpN
    have na := nan a
    have nb := nan b
    by_cases h1 : a < b
    · rw [if_pos h1]
      repeat (first | (with_reducible apply qzV; simp (disch := omega) only [coreA, Int.reduceBEq, bzIb, na, nb] <;> with_reducible rfl) | (with_reducible first | apply qzT | apply qzF | apply qzG | apply qzH) | ((with_reducible first | apply qzB | apply qzC | apply qzD); simp (disch := omega) only [coreA, Int.reduceBEq, bzIb, na, nb] <;> with_reducible rfl))
      exact ⟨_, rfl, rfl⟩
    · rw [if_neg h1]
      by_cases h2 : a > b
      · rw [if_pos h2]
        repeat (first | (with_reducible apply qzV; simp (disch := omega) only [coreA, Int.reduceBEq, bzIb, na, nb] <;> with_reducible rfl) | (with_reducible first | apply qzT | apply qzF | apply qzG | apply qzH) | ((with_reducible first | apply qzB | apply qzC | apply qzD); simp (disch := omega) only [coreA, Int.reduceBEq, bzIb, na, nb] <;> with_reducible rfl))
        exact ⟨_, rfl, rfl⟩
      · rw [if_neg h2]
        repeat (first | (with_reducible apply qzV; simp (disch := omega) only [coreA, Int.reduceBEq, bzIb, na, nb] <;> with_reducible rfl) | (with_reducible first | apply qzT | apply qzF | apply qzG | apply qzH) | ((with_reducible first | apply qzB | apply qzC | apply qzD); simp (disch := omega) only [coreA, Int.reduceBEq, bzIb, na, nb] <;> with_reducible rfl))
        exact ⟨_, rfl, rfl⟩
  obtain ⟨r, h1, h2⟩ := T
  rw [F124_call, h1, h2]
theorem f123c {k : Nat} {h : AH} {v w : Value} {l m : List Nat} (A : Bytes h v l) (B : Bytes h w m) : callV (eInv env (k + 3)) (.func (.func 123) #[] #[]) #[v, w] h = some (.int .i64 (cmpN l.length m.length), h) := by
  have e : callV (eInv env (k + 3)) (.func (.func 123) #[] #[]) #[v, w] h = eInv env (k + 3) (.func 123) #[] (#[] ++ #[v, w]) h := rfl
  rw [e, show ((#[] : Array Value) ++ #[v, w]) = #[v, w] by simp, F123_call]
  unfold F123
  simp only [A.len, B.len, bnd_some, f124c]
theorem f122_loop {β : Type} {k : Nat} {Q : β → Prop} {h : AH} {v : Value} {vs : List (Value × List Nat)} (A : Sl1 Tryz.prog h v (fun x : Value × List Nat => x.1) vs) (hB : ∀ x ∈ vs, Bytes h x.1 x.2) (hl : vs.length ≤ 100)
    {ke0 : Value → Value → Value → Value → Value → AH → Option β} (n : Nat) :
    ∀ {i j : Nat} {m : Value × List Nat}, i + n = vs.length → n < j → Bytes h m.1 m.2 → (∀ y y', Tl (ke0 v (.func (.func 123) #[] #[]) ((vs.drop i).foldl shorter m).1 y y' h) Q) →
      Tl (F122_lrlrrr (eInv env (k + 3)) (k + 3) j v (.func (.func 123) #[] #[]) m.1 (.int .i64 i) h ke0) Q := by
  have hv : ∀ h', pLen Tryz.prog #[153] v h' = some (.int .i64 vs.length) := fun h' => Sl1.len A u153
  induction n with
  | zero =>
    intro i j m hi hj hm hk
    obtain ⟨j, rfl⟩ : ∃ q, j = q + 1 := ⟨j - 1, by omega⟩
    simp only [F122_lrlrrr]
    repeat (first | (with_reducible apply qzV; simp (disch := omega) only [coreA, Int.reduceBEq, bzIb, hv] <;> with_reducible rfl) | (with_reducible first | apply qzT | apply qzF | apply qzG | apply qzH) | ((with_reducible first | apply qzB | apply qzC | apply qzD); simp (disch := omega) only [coreA, Int.reduceBEq, bzIb, hv] <;> with_reducible rfl))
    rw [List.drop_eq_nil_of_le (by omega)] at hk
    exact hk _ _
  | succ n ih =>
    intro i j m hi hj hm hk
    obtain ⟨j, rfl⟩ : ∃ q, j = q + 1 := ⟨j - 1, by omega⟩
    obtain ⟨x, hx⟩ : ∃ x, vs[i]? = some x := ⟨_, List.getElem?_eq_getElem (by omega)⟩
    obtain ⟨b, o, hp, hc1⟩ := Sl1.at_ A (t := 153) (k := .i64) hx u153 sz33
    have hc1 := hc1 h (Grow.refl _)
    have Bx := hB x (List.mem_of_getElem? hx)
    have cm := f123c (k := k) Bx hm
    have e : (i : Int) + 1 = ((i + 1 : Nat) : Int) := by omega
    rw [dropc hx, List.foldl_cons] at hk
    simp only [F122_lrlrrr]
    unfold F122_lrllrlrrr
    by_cases q : x.2.length < m.2.length
    · have ec : cmpN x.2.length m.2.length = -1 := by unfold cmpN; rw [if_pos (by omega)]
      have es : shorter m x = x := by unfold shorter; rw [if_pos q]
      rw [es] at hk
      rw [ec] at cm
      repeat (first | (with_reducible apply qzV; simp (disch := omega) only [coreA, Int.reduceBEq, bzIb, hv, hp, hc1, cm] <;> with_reducible rfl) | (with_reducible first | apply qzT | apply qzF | apply qzG | apply qzH) | ((with_reducible first | apply qzB | apply qzC | apply qzD); simp (disch := omega) only [coreA, Int.reduceBEq, bzIb, hv, hp, hc1, cm] <;> with_reducible rfl))
      rw [e]
      exact ih (by omega) (by omega) Bx hk
    · have ec : ¬ cmpN x.2.length m.2.length < 0 := by unfold cmpN; split <;> (try split) <;> omega
      have es : shorter m x = m := by unfold shorter; rw [if_neg q]
      rw [es] at hk
      repeat (first | (with_reducible apply qzV; simp (disch := omega) only [coreA, Int.reduceBEq, bzIb, hv, hp, hc1, cm] <;> with_reducible rfl) | (with_reducible first | apply qzT | apply qzF | apply qzG | apply qzH) | ((with_reducible first | apply qzB | apply qzC | apply qzD); simp (disch := omega) only [coreA, Int.reduceBEq, bzIb, hv, hp, hc1, cm] <;> with_reducible rfl))
      rw [e]
      exact ih (by omega) (by omega) hm hk
theorem f122c {k : Nat} {h : AH} {v : Value} {a : Value × List Nat} {vs : List (Value × List Nat)} (A : Sl1 Tryz.prog h v (fun x : Value × List Nat => x.1) (a :: vs)) (hB : ∀ x ∈ a :: vs, Bytes h x.1 x.2) (hl : vs.length ≤ 90) (hk : vs.length < k) :
    eInv env (k + 4) (.func 122) #[] #[v, .func (.func 123) #[] #[]] h = some ((vs.foldl shorter a).1, h) := by
  have T : Tl (F122 (eInv env (k + 3)) (k + 3) v (.func (.func 123) #[] #[]) h) fun r => r = ((vs.foldl shorter a).1, h) := by
    unfold F122
    have hv : ∀ h', pLen Tryz.prog #[153] v h' = some (.int .i64 ((vs.length + 1 : Nat) : Int)) := fun h' => Sl1.len A u153
    obtain ⟨b, o, hp, hc1⟩ := Sl1.at_ A (t := 153) (k := .i64) (i := 0) (x := a) rfl u153 sz33
    have hc1 := hc1 h (Grow.refl _)
    have hp : pIndexAddr Tryz.prog 153 v (.int .i64 0) = _ := hp
    unfold F122_rlr
    repeat (first | (with_reducible apply qzV; simp (disch := omega) only [coreA, Int.reduceBEq, bzIb, hv, hp, hc1] <;> with_reducible rfl) | (with_reducible first | apply qzT | apply qzF | apply qzG | apply qzH) | ((with_reducible first | apply qzB | apply qzC | apply qzD); simp (disch := omega) only [coreA, Int.reduceBEq, bzIb, hv, hp, hc1] <;> with_reducible rfl))
    exact f122_loop A hB (by simp; omega) vs.length (i := 1) (m := a) (by simp; omega) (by omega) (hB a (by simp)) fun y y' => ⟨_, rfl, by simp⟩
  obtain ⟨r, h1, h2⟩ := T
  rw [F122_call, h1, h2]
end Go.Proofs.YtghelamfaaakcaaGreat.Sh
