/- 'IntsBack' comes to true. -/
import Derived.Test.YtcidbbkefpeahaaSzI3
set_option linter.unusedVariables false
set_option linter.unusedSimpArgs false
set_option maxRecDepth 100000
namespace Go.Proofs.Ytcidbbkefpeahaa.Sh
open Go Go.RowKit Go.Proofs.Ev
theorem base_I4 : type_of% (And.intro @ld3 (And.intro @ld2 (And.intro @ld26 (And.intro @ld5 (And.intro @ex2_0 (@ex2_1)))))) := And.intro @ld3 (And.intro @ld2 (And.intro @ld26 (And.intro @ld5 (And.intro @ex2_0 (@ex2_1)))))
theorem min3 {a b c : Nat} : pMinMax Try.prog false #[.int .i64 (a : Int), .int .i64 (b : Int), .int .i64 (c : Int)] = some (.int .i64 ((min a (min b c) : Nat) : Int)) := by
  have key : ∀ a b c : Int, pMinMax Try.prog false #[.int .i64 a, .int .i64 b, .int .i64 c] = some (.int .i64 (if c < (if b < a then b else a) then c else (if b < a then b else a))) := fun a b c => by
    by_cases h : b < a <;> by_cases h2 : c < b <;> by_cases h3 : c < a <;> simp [pMinMax, Builtin.min_, Builtin.min2, h, h2, h3, chk, plain, plain0] <;> rfl
  rw [key]
  congr 2
  split <;> split <;> omega
theorem bs4 (h : AH) (a1 a2 a3 a4 : Option Addr) (n1 n2 n3 n4 c1 c2 c3 c4 : Nat) : pBuildSlice Try.prog 41 4 #[(0, .slice a1 n1 c1), (1, .slice a2 n2 c2), (2, .slice a3 n3 c3), (3, .slice a4 n4 c4)] h =
    some (.slice (some ⟨h.n, 0, none⟩) 4 4, h.alloc (.cells [.slice a1 n1 c1, .slice a2 n2 c2, .slice a3 n3 c3, .slice a4 n4 c4] 26 true)) := by kernel_rfl
theorem f7_loop {β : Type} {k : Nat} {Q : β → Prop} {hb : AH} {x0 x1 bv : Value} {l : List Int} {vs : List (Value × List Nat)} (A : Ints hb x0 l) (hl : l.length ≤ 200) (V : Sl1 Try.prog hb bv (fun x : Value × List Nat => x.1) vs) (hvs : vs.length ≤ 100)
    (hB : ∀ x ∈ vs, Bytes hb x.1 x.2 ∧ getI x.2 = some l ∧ (∀ y ∈ x.2, y < 256) ∧ x.2.length ≤ 5000) {ke0 : Value → Value → Value → Value → Value → Value → AH → Option β} {kr : Value → AH → Option β} (n : Nat) :
    ∀ {i j : Nat} {h : AH}, i + n = vs.length → n < j → Grow hb h → (∀ h' y y', Grow hb h' → Tl (ke0 x0 x1 bv (.int .i64 vs.length) y y' h') Q) →
      Tl (F7_lrlrrrrrrrr (eInv env (k + 8000)) (k + 8000) j x0 x1 bv (.int .i64 vs.length) (.int .i64 i) h ke0 kr) Q := by
  induction n with
  | zero =>
    intro i j h hi hj g hk
    obtain ⟨j, rfl⟩ : ∃ q, j = q + 1 := ⟨j - 1, by omega⟩
    simp only [F7_lrlrrrrrrrr]
    repeat (first | (with_reducible apply Tl.val; focus (simp (disch := omega) only [coreA, Int.reduceBEq, base_I4] <;> with_reducible rfl)) | with_reducible refine Tl.brT ?_ | with_reducible refine Tl.brF ?_ | with_reducible refine Tl.gd_on ?_ | with_reducible refine Tl.gd3_on ?_ | ((first | with_reducible apply Tl.brC | with_reducible apply Tl.gdC | with_reducible apply Tl.gd3C); focus (simp (disch := omega) only [coreA, Int.reduceBEq, base_I4] <;> with_reducible rfl)))
    exact hk _ _ _ g
  | succ n ih =>
    intro i j h hi hj g hk
    obtain ⟨j, rfl⟩ : ∃ q, j = q + 1 := ⟨j - 1, by omega⟩
    obtain ⟨x, hx⟩ : ∃ x, vs[i]? = some x := ⟨_, List.getElem?_eq_getElem (by omega)⟩
    obtain ⟨b, o, hp, hc1⟩ := Sl1.at_ V (t := 41) (k := .i64) hx u41 sz26
    have hc1 := hc1 h g
    obtain ⟨Bx, hget, h256, hxl⟩ := hB x (List.mem_of_getElem? hx)
    have e : (i : Int) + 1 = ((i + 1 : Nat) : Int) := by omega
    have hlen : ∀ h', pLen Try.prog #[25] x0 h' = some (.int .i64 l.length) := fun h' => Sl1.len A u25
    simp only [F7_lrlrrrrrrrr]
    repeat (first | (with_reducible apply Tl.val; focus (simp (disch := omega) only [coreA, Int.reduceBEq, base_I4, hp, hc1] <;> with_reducible rfl)) | with_reducible refine Tl.brT ?_ | with_reducible refine Tl.brF ?_ | with_reducible refine Tl.gd_on ?_ | with_reducible refine Tl.gd3_on ?_ | ((first | with_reducible apply Tl.brC | with_reducible apply Tl.gdC | with_reducible apply Tl.gd3C); focus (simp (disch := omega) only [coreA, Int.reduceBEq, base_I4, hp, hc1] <;> with_reducible rfl)))
    refine Tl.bind (f15c (k := k + 1000) (Bx.grow g) h256 hxl) ?_
    rintro ⟨r, h1⟩ (⟨l2, ov, hg, hl2, er, g1, X⟩ | ⟨hg, _⟩)
    · rw [hget] at hg
      cases hg
      simp only at er g1 X
      subst er
      have S1 := (Stt.init h : Stt Try.prog h.n h h [] []).gain g1 X
      repeat (first | (with_reducible apply Tl.val; focus (simp (disch := omega) only [coreA, Int.reduceBEq, base_I4] <;> with_reducible rfl)) | with_reducible refine Tl.brT ?_ | with_reducible refine Tl.brF ?_ | with_reducible refine Tl.gd_on ?_ | with_reducible refine Tl.gd3_on ?_ | ((first | with_reducible apply Tl.brC | with_reducible apply Tl.gdC | with_reducible apply Tl.gd3C); focus (simp (disch := omega) only [coreA, Int.reduceBEq, base_I4] <;> with_reducible rfl)))
      refine Tl.call' S1 (f16c (k := k + 999) ((Bx.grow g).grow g1) h256 hxl) fun h2 S2 g2 => ?_
      have same := f17c (k := k + 7999) (S2.sl1 (f := i6v) 0 rfl) (Sl1.grow A (g.trans S2.grow)) (by omega) (by omega) (by omega)
      rw [decide_eq_true rfl] at same
      rw [hget]
      simp only [Option.isSome_some, if_true, Option.getD_some]
      repeat (first | (with_reducible apply Tl.val; focus (simp (disch := omega) only [coreA, Int.reduceBEq, base_I4, hlen, same] <;> with_reducible rfl)) | with_reducible refine Tl.brT ?_ | with_reducible refine Tl.brF ?_ | with_reducible refine Tl.gd_on ?_ | with_reducible refine Tl.gd3_on ?_ | ((first | with_reducible apply Tl.brC | with_reducible apply Tl.gdC | with_reducible apply Tl.gd3C); focus (simp (disch := omega) only [coreA, Int.reduceBEq, base_I4, hlen, same] <;> with_reducible rfl)))
      rw [e]
      exact ih (by omega) (by omega) (g.trans S2.grow) hk
    · rw [hget] at hg
      cases hg
theorem eqB {l m : List Nat} (hl : ∀ x ∈ l, x < 256) (hm : ∀ x ∈ m, x < 256) : ∀ t x y, pBin Try.prog Go.BinOp.eql t x y (.string (strB l)) (.string (strB m)) = some (.bool (decide (l = m))) := fun t x y => by
  rw [bin_eql_string]
  congr 2
  by_cases q : l = m
  · simp [q]
  · have : ¬ strB l = strB m := fun h => q (strB_inj hl hm h)
    simp [q, this]
theorem f7 {k : Nat} {h : AH} {v w : Value} {l : List Int} {b : List Nat} (A : Ints h v l) (hok : ∀ z ∈ l, i64ok z) (B : Bytes h w b) (hb : ∀ x ∈ b, x < 256) :
    Tl (F7 (eInv env (k + 20000)) (k + 20000) v w h) fun r => r.1 = .bool true := by
  unfold F7
  have hv : ∀ h', pLen Try.prog #[25] v h' = some (.int .i64 l.length) := fun h' => Sl1.len A u25
  have hw : ∀ h', pLen Try.prog #[26] w h' = some (.int .i64 b.length) := fun h' => B.len
  refine Tl.call' (Stt.init h : Stt Try.prog h.n h h [] []) (lives_call (k := k + 19400) (Stt.init h : Stt Try.prog h.n h h [] [])) fun h1 S1 g1 => ?_
  by_cases q1 : l.length ≤ 200
  · by_cases q2 : b.length ≤ 200
    · repeat (first | (with_reducible apply Tl.val; focus (simp (disch := omega) only [coreA, Int.reduceBEq, base_I4, hv, hw] <;> with_reducible rfl)) | with_reducible refine Tl.brT ?_ | with_reducible refine Tl.brF ?_ | with_reducible refine Tl.gd_on ?_ | with_reducible refine Tl.gd3_on ?_ | ((first | with_reducible apply Tl.brC | with_reducible apply Tl.gdC | with_reducible apply Tl.gd3C); focus (simp (disch := omega) only [coreA, Int.reduceBEq, base_I4, hv, hw] <;> with_reducible rfl)))
      have hm := minI_ok hok
      refine Tl.bind (f13c (k := k + 19970) (Sl1.grow A S1.grow) (by omega) (by omega)) ?_
      rintro ⟨r, h2⟩ ⟨p1, er, g2, X2⟩
      simp only at er g2 X2
      subst er
      have S2 := S1.gain g2 X2
      repeat (first | (with_reducible apply Tl.val; focus (simp (disch := omega) only [coreA, Int.reduceBEq, base_I4] <;> with_reducible rfl)) | with_reducible refine Tl.brT ?_ | with_reducible refine Tl.brF ?_ | with_reducible refine Tl.gd_on ?_ | with_reducible refine Tl.gd3_on ?_ | ((first | with_reducible apply Tl.brC | with_reducible apply Tl.gdC | with_reducible apply Tl.gd3C); focus (simp (disch := omega) only [coreA, Int.reduceBEq, base_I4] <;> with_reducible rfl)))
      refine Tl.bind (f14c (k := k + 19970) (Sl1.grow A S2.grow) (by omega) (by omega)) ?_
      rintro ⟨r, h3⟩ ⟨p2, er, g3, X3⟩
      simp only at er g3 X3
      subst er
      have S3 := S2.gain g3 X3
      repeat (first | (with_reducible apply Tl.val; focus (simp (disch := omega) only [coreA, Int.reduceBEq, base_I4] <;> with_reducible rfl)) | with_reducible refine Tl.brT ?_ | with_reducible refine Tl.brF ?_ | with_reducible refine Tl.gd_on ?_ | with_reducible refine Tl.gd3_on ?_ | ((first | with_reducible apply Tl.brC | with_reducible apply Tl.gdC | with_reducible apply Tl.gd3C); focus (simp (disch := omega) only [coreA, Int.reduceBEq, base_I4] <;> with_reducible rfl)))
      refine Tl.bind (f11c (k := k + 19500) (Sl1.grow A S3.grow) (by omega) (by omega)) ?_
      rintro ⟨r, h4⟩ ⟨p3, er, g4, X4⟩
      simp only at er g4 X4
      subst er
      have S4 := S3.gain g4 X4
      repeat (first | (with_reducible apply Tl.val; focus (simp (disch := omega) only [coreA, Int.reduceBEq, base_I4] <;> with_reducible rfl)) | with_reducible refine Tl.brT ?_ | with_reducible refine Tl.brF ?_ | with_reducible refine Tl.gd_on ?_ | with_reducible refine Tl.gd3_on ?_ | ((first | with_reducible apply Tl.brC | with_reducible apply Tl.gdC | with_reducible apply Tl.gd3C); focus (simp (disch := omega) only [coreA, Int.reduceBEq, base_I4] <;> with_reducible rfl)))
      refine Tl.bind (f10c (k := k + 19499) (Sl1.grow A S4.grow) (by omega) (by omega)) ?_
      rintro ⟨r, h5⟩ ⟨p4, er, g5, B5⟩
      simp only at er g5 B5
      subst er
      have S5 := S4.call g5
      have len := fun (i : Nat) (x : Value) (ll : List Nat) (hi : ([(p3, 1, u8rows (packB l)), (p2, 1, u8rows (runsB l)), (p1, 1, u8rows (plainB l))] : List OS)[i]? = some (x, 1, u8rows ll)) =>
        show ∀ h', pLen Try.prog #[26] x h' = some (.int .i64 ll.length) from fun h' => by
          have := SlV.len (S5.slV i hi) u26 (h' := h')
          rw [u8rows_len] at this
          exact this
      have l3 := len 0 _ _ rfl
      have l2 := len 1 _ _ rfl
      have l1 := len 2 _ _ rfl
      have l4 : ∀ h', pLen Try.prog #[26] p4 h' = some (.int .i64 (putI l).length) := fun h' => B5.len
      have hpl := putI_len l
      repeat (first | (with_reducible apply Tl.val; focus (simp (disch := omega) only [coreA, Int.reduceBEq, base_I4, l1, l2, l3, l4, min3] <;> with_reducible rfl)) | with_reducible refine Tl.brT ?_ | with_reducible refine Tl.brF ?_ | with_reducible refine Tl.gd_on ?_ | with_reducible refine Tl.gd3_on ?_ | ((first | with_reducible apply Tl.brC | with_reducible apply Tl.gdC | with_reducible apply Tl.gd3C); focus (simp (disch := omega) only [coreA, Int.reduceBEq, base_I4, l1, l2, l3, l4, min3] <;> with_reducible rfl)))
      obtain ⟨a1, c1, e1, _⟩ := (S5.slV 2 rfl).form
      obtain ⟨a2, c2, e2, _⟩ := (S5.slV 1 rfl).form
      obtain ⟨a3, c3, e3, _⟩ := (S5.slV 0 rfl).form
      obtain ⟨a4, c4, e4, _⟩ := (B5 : SlV Try.prog h5 p4 1 _).form
      have bs : pBuildSlice Try.prog 41 4 #[(0, p1), (1, p2), (2, p3), (3, p4)] h5 = some (.slice (some ⟨h5.n, 0, none⟩) 4 4, h5.alloc (.cells [p1, p2, p3, p4] 26 true)) := by
        rw [e1, e2, e3, e4]; exact bs4 _ _ _ _ _ _ _ _ _ _ _ _ _
      have hbl : ∀ h' : AH, pLen Try.prog #[41] (.slice (some ⟨h5.n, 0, none⟩) 4 4) h' = some (.int .i64 4) := fun h' => len_slice u41
      repeat (first | (with_reducible apply Tl.val; focus (simp (disch := omega) only [coreA, Int.reduceBEq, base_I4, bs, hbl] <;> with_reducible rfl)) | with_reducible refine Tl.brT ?_ | with_reducible refine Tl.brF ?_ | with_reducible refine Tl.gd_on ?_ | with_reducible refine Tl.gd3_on ?_ | ((first | with_reducible apply Tl.brC | with_reducible apply Tl.gdC | with_reducible apply Tl.gd3C); focus (simp (disch := omega) only [coreA, Int.reduceBEq, base_I4, bs, hbl] <;> with_reducible rfl)))
      have S6 := S5.alloc (.cells [p1, p2, p3, p4] 26 true)
      have S7 := Stt.absorb (rows := [[p1], [p2], [p3], [p4]]) (n := 1) S6 (fun r hr => by simp at hr; rcases hr with rfl | rfl | rfl | rfl <;> rfl) sz26
      have V : Sl1 Try.prog _ (.slice (some ⟨h5.n, 0, none⟩) 4 4) (fun x : Value × List Nat => x.1) [(p1, plainB l), (p2, runsB l), (p3, packB l), (p4, putI l)] := S7.slV 0 rfl
      have g6 := Grow.alloc h5 (.cells [p1, p2, p3, p4] 26 true)
      have w64 := widI_le l
      have pl10 := pvarN_le10 (n := l.length) (by omega)
      have n1 : (plainB l).length ≤ 4990 := by rw [plain_len]; omega
      have n2 : (runsB l).length ≤ 4990 := by have := runs_small l (by omega); omega
      have n3 : (packB l).length ≤ 4990 := by
        rw [pack_len]
        have : l.length * widI l ≤ 200 * 64 := Nat.mul_le_mul q1 w64
        omega
      obtain ⟨kd, hkd, ekd⟩ := putI_form l
      refine f7_loop (k := k + 12000) (vs := [(p1, plainB l), (p2, runsB l), (p3, packB l), (p4, putI l)]) (Sl1.grow A S7.grow) q1 V (by simp) (fun x hx => ?_) 4 (i := 0) rfl (by omega) (Grow.refl _) fun h8 y y' g8 => ?_
      · simp only [List.mem_cons, List.not_mem_nil, or_false] at hx
        rcases hx with rfl | rfl | rfl | rfl
        · exact ⟨S7.sl1 (f := u8v) 3 rfl, get_form (kd := 1) (by omega) l (by omega) hok hm, formB_256 1 l, by simp only; omega⟩
        · exact ⟨S7.sl1 (f := u8v) 2 rfl, get_form (kd := 2) (by omega) l (by omega) hok hm, formB_256 2 l, by simp only; omega⟩
        · exact ⟨S7.sl1 (f := u8v) 1 rfl, get_form (kd := 3) (by omega) l (by omega) hok hm, formB_256 3 l, by simp only; omega⟩
        · refine ⟨B5.grow g6, ?_, ?_, by simp only; omega⟩
          · show getI (putI l) = some l
            rw [ekd]; exact get_form hkd l (by omega) hok hm
          · show ∀ y ∈ putI l, y < 256
            rw [ekd]; exact formB_256 kd l
      · have gg := S7.grow.trans g8
        refine Tl.bind (f15c (k := k + 13000) (B.grow gg) hb (by omega)) ?_
        rintro ⟨r, h9⟩ (⟨m, mv, hg, hml, er, g9, X9⟩ | ⟨hg, er, g9⟩)
        · simp only at er g9 X9
          subst er
          have S9 := (Stt.init h8 : Stt Try.prog h8.n h8 h8 [] []).gain g9 X9
          repeat (first | (with_reducible apply Tl.val; focus (simp (disch := omega) only [coreA, Int.reduceBEq, base_I4] <;> with_reducible rfl)) | with_reducible refine Tl.brT ?_ | with_reducible refine Tl.brF ?_ | with_reducible refine Tl.gd_on ?_ | with_reducible refine Tl.gd3_on ?_ | ((first | with_reducible apply Tl.brC | with_reducible apply Tl.gdC | with_reducible apply Tl.gd3C); focus (simp (disch := omega) only [coreA, Int.reduceBEq, base_I4] <;> with_reducible rfl)))
          refine Tl.bind (f13c (k := k + 19970) (S9.sl1 (f := i6v) 0 rfl) (by omega) (by omega)) ?_
          rintro ⟨r, h10⟩ ⟨t1, er, g10, X10⟩
          simp only at er g10 X10
          subst er
          have S10 := S9.gain g10 X10
          repeat (first | (with_reducible apply Tl.val; focus (simp (disch := omega) only [coreA, Int.reduceBEq, base_I4] <;> with_reducible rfl)) | with_reducible refine Tl.brT ?_ | with_reducible refine Tl.brF ?_ | with_reducible refine Tl.gd_on ?_ | with_reducible refine Tl.gd3_on ?_ | ((first | with_reducible apply Tl.brC | with_reducible apply Tl.gdC | with_reducible apply Tl.gd3C); focus (simp (disch := omega) only [coreA, Int.reduceBEq, base_I4] <;> with_reducible rfl)))
          refine Tl.bind (f14c (k := k + 19970) (S10.sl1 (f := i6v) 1 rfl) (by omega) (by omega)) ?_
          rintro ⟨r, h11⟩ ⟨t2, er, g11, X11⟩
          simp only at er g11 X11
          subst er
          have S11 := S10.gain g11 X11
          repeat (first | (with_reducible apply Tl.val; focus (simp (disch := omega) only [coreA, Int.reduceBEq, base_I4] <;> with_reducible rfl)) | with_reducible refine Tl.brT ?_ | with_reducible refine Tl.brF ?_ | with_reducible refine Tl.gd_on ?_ | with_reducible refine Tl.gd3_on ?_ | ((first | with_reducible apply Tl.brC | with_reducible apply Tl.gdC | with_reducible apply Tl.gd3C); focus (simp (disch := omega) only [coreA, Int.reduceBEq, base_I4] <;> with_reducible rfl)))
          refine Tl.bind (f11c (k := k + 19500) (S11.sl1 (f := i6v) 2 rfl) (by omega) (by omega)) ?_
          rintro ⟨r, h12⟩ ⟨t3, er, g12, X12⟩
          simp only at er g12 X12
          subst er
          have S12 := S11.gain g12 X12
          have cb : ∀ h', Grow h12 h' → pConv Try.prog 26 9 w h' = some (.string (strB b)) := fun h' g => convB (B.grow ((gg.trans S12.grow).trans g))
          have cb := cb h12 (Grow.refl _)
          have cp1 := convB (S12.sl1 (f := u8v) (l := plainB m) 2 rfl)
          have cp2 := convB (S12.sl1 (f := u8v) (l := runsB m) 1 rfl)
          have cp3 := convB (S12.sl1 (f := u8v) (l := packB m) 0 rfl)
          have q1 := eqB hb (formB_256 1 m)
          have q2 := eqB hb (formB_256 2 m)
          have q3 := eqB hb (formB_256 3 m)
          change ∀ t x y, pBin Try.prog Go.BinOp.eql t x y (.string (strB b)) (.string (strB (plainB m))) = some (.bool (decide (b = plainB m))) at q1
          change ∀ t x y, pBin Try.prog Go.BinOp.eql t x y (.string (strB b)) (.string (strB (runsB m))) = some (.bool (decide (b = runsB m))) at q2
          change ∀ t x y, pBin Try.prog Go.BinOp.eql t x y (.string (strB b)) (.string (strB (packB m))) = some (.bool (decide (b = packB m))) at q3
          by_cases z1 : b = plainB m
          · rw [decide_eq_true z1] at q1
            repeat (first | (with_reducible apply Tl.val; focus (simp (disch := omega) only [coreA, Int.reduceBEq, base_I4, cb, cp1, cp2, cp3, q1, q2, q3] <;> with_reducible rfl)) | with_reducible refine Tl.brT ?_ | with_reducible refine Tl.brF ?_ | with_reducible refine Tl.gd_on ?_ | with_reducible refine Tl.gd3_on ?_ | ((first | with_reducible apply Tl.brC | with_reducible apply Tl.gdC | with_reducible apply Tl.gd3C); focus (simp (disch := omega) only [coreA, Int.reduceBEq, base_I4, cb, cp1, cp2, cp3, q1, q2, q3] <;> with_reducible rfl)))
            exact ⟨_, rfl, rfl⟩
          · rw [decide_eq_false z1] at q1
            by_cases z2 : b = runsB m
            · rw [decide_eq_true z2] at q2
              repeat (first | (with_reducible apply Tl.val; focus (simp (disch := omega) only [coreA, Int.reduceBEq, base_I4, cb, cp1, cp2, cp3, q1, q2, q3] <;> with_reducible rfl)) | with_reducible refine Tl.brT ?_ | with_reducible refine Tl.brF ?_ | with_reducible refine Tl.gd_on ?_ | with_reducible refine Tl.gd3_on ?_ | ((first | with_reducible apply Tl.brC | with_reducible apply Tl.gdC | with_reducible apply Tl.gd3C); focus (simp (disch := omega) only [coreA, Int.reduceBEq, base_I4, cb, cp1, cp2, cp3, q1, q2, q3] <;> with_reducible rfl)))
              exact ⟨_, rfl, rfl⟩
            · rw [decide_eq_false z2] at q2
              have z3 : b = packB m := by
                rcases getI_some hg with h | h | h
                · exact absurd h z1
                · exact absurd h z2
                · exact h
              rw [decide_eq_true z3] at q3
              repeat (first | (with_reducible apply Tl.val; focus (simp (disch := omega) only [coreA, Int.reduceBEq, base_I4, cb, cp1, cp2, cp3, q1, q2, q3] <;> with_reducible rfl)) | with_reducible refine Tl.brT ?_ | with_reducible refine Tl.brF ?_ | with_reducible refine Tl.gd_on ?_ | with_reducible refine Tl.gd3_on ?_ | ((first | with_reducible apply Tl.brC | with_reducible apply Tl.gdC | with_reducible apply Tl.gd3C); focus (simp (disch := omega) only [coreA, Int.reduceBEq, base_I4, cb, cp1, cp2, cp3, q1, q2, q3] <;> with_reducible rfl)))
              exact ⟨_, rfl, rfl⟩
        · simp only at er g9
          subst er
          have hn : ∀ h', pLen Try.prog #[25] (.slice none 0 0) h' = some (.int .i64 0) := fun h' => len_slice u25
          repeat (first | (with_reducible apply Tl.val; focus (simp (disch := omega) only [coreA, Int.reduceBEq, base_I4, hn] <;> with_reducible rfl)) | with_reducible refine Tl.brT ?_ | with_reducible refine Tl.brF ?_ | with_reducible refine Tl.gd_on ?_ | with_reducible refine Tl.gd3_on ?_ | ((first | with_reducible apply Tl.brC | with_reducible apply Tl.gdC | with_reducible apply Tl.gd3C); focus (simp (disch := omega) only [coreA, Int.reduceBEq, base_I4, hn] <;> with_reducible rfl)))
          exact ⟨_, rfl, rfl⟩
    · repeat (first | (with_reducible apply Tl.val; focus (simp (disch := omega) only [coreA, Int.reduceBEq, base_I4, hv, hw] <;> with_reducible rfl)) | with_reducible refine Tl.brT ?_ | with_reducible refine Tl.brF ?_ | with_reducible refine Tl.gd_on ?_ | with_reducible refine Tl.gd3_on ?_ | ((first | with_reducible apply Tl.brC | with_reducible apply Tl.gdC | with_reducible apply Tl.gd3C); focus (simp (disch := omega) only [coreA, Int.reduceBEq, base_I4, hv, hw] <;> with_reducible rfl)))
      exact ⟨_, rfl, rfl⟩
  · repeat (first | (with_reducible apply Tl.val; focus (simp (disch := omega) only [coreA, Int.reduceBEq, base_I4, hv, hw] <;> with_reducible rfl)) | with_reducible refine Tl.brT ?_ | with_reducible refine Tl.brF ?_ | with_reducible refine Tl.gd_on ?_ | with_reducible refine Tl.gd3_on ?_ | ((first | with_reducible apply Tl.brC | with_reducible apply Tl.gdC | with_reducible apply Tl.gd3C); focus (simp (disch := omega) only [coreA, Int.reduceBEq, base_I4, hv, hw] <;> with_reducible rfl)))
    exact ⟨_, rfl, rfl⟩
end Go.Proofs.Ytcidbbkefpeahaa.Sh
