/- 'ModelNil' comes to true: a model that nobody made. -/
import Derived.Test.YtkdjlihldeafoaaGreatSnF
import Derived.Test.YtkdjlihldeafoaaGreatSnT
import Derived.Test.YtkdjlihldeafoaaGreatEvC
set_option linter.unusedVariables false
set_option linter.unusedSimpArgs false
set_option maxRecDepth 100000
namespace Go.Proofs.YtkdjlihldeafoaaGreat.Sh
open Go Go.RowKit Go.Proofs.Ev
theorem nil28 {x y : Operand} : pBin Tryz.prog .eql 28 x y (.pointer none) (.pointer none) = some (.bool true) := by kernel_rfl
theorem base_M1 : type_of% (And.intro @ld3 (And.intro @ld30 (And.intro @ld31 (And.intro @ld32 (And.intro @ld55 (And.intro @ld56 (And.intro @fa34_0 (And.intro @fa34_1 (And.intro @fa34_2 (And.intro @fa34_3 (And.intro @fa58_0 (And.intro @fa58_1 (And.intro @nil28 (@Nat.add_zero)))))))))))))) := And.intro @ld3 (And.intro @ld30 (And.intro @ld31 (And.intro @ld32 (And.intro @ld55 (And.intro @ld56 (And.intro @fa34_0 (And.intro @fa34_1 (And.intro @fa34_2 (And.intro @fa34_3 (And.intro @fa58_0 (And.intro @fa58_1 (And.intro @nil28 (@Nat.add_zero)))))))))))))
def ansC : List Value := [.int .i64 1, .slice none 0 0, .slice none 0 0, .int .i64 0]
def ansV : Value := .agg #[.int .i64 1, .slice none 0 0, .slice none 0 0, .int .i64 0]
def baseV : Value := .agg #[.slice none 0 0, .slice none 0 0]
theorem bd34 : pBuild Tryz.prog 34 #[(0, .int .i64 1)] = some ansV := by kernel_rfl
theorem bd58 : pBuild Tryz.prog 58 #[] = some baseV := by kernel_rfl
theorem nl (e : TypeId) {n : Nat} {h : AH} {t : TypeId} (ht : Tryz.prog.underlying t = some (.slice e)) : pLen Tryz.prog #[t] (.slice none 0 0) h = some (.int .i64 0) := by
  have := SlV.len (show SlV Tryz.prog h (.slice none 0 0) 1 [] from .inl ⟨rfl, rfl⟩) ht (h' := h)
  simpa using this
theorem l31 (h : AH) : pLen Tryz.prog #[31] (.slice none 0 0) h = some (.int .i64 0) := nl 45 (n := 0) u31
theorem l32 (h : AH) : pLen Tryz.prog #[32] (.slice none 0 0) h = some (.int .i64 0) := nl 9 (n := 0) u32
theorem l55 (h : AH) : pLen Tryz.prog #[55] (.slice none 0 0) h = some (.int .i64 0) := nl 79 (n := 0) u55
theorem l56 (h : AH) : pLen Tryz.prog #[56] (.slice none 0 0) h = some (.int .i64 0) := nl 81 (n := 0) u56
section
variable {h : AH}
theorem f39c {k : Nat} : Tl (eInv env (k + 1) (.func 39) #[] #[.int .i64 1] h) fun r => r.1 = ansV ∧ Grow h r.2 := by
  rw [F39_call]
  unfold F39
  refine Tl.alloc' (Stt.init h) ze34 rfl fun b h1 S1 _ => ?_
  repeat (first | (with_reducible apply Tl.val; focus (simp (disch := omega) only [coreA, Int.reduceBEq, base_M1, bd34] <;> with_reducible rfl)) | (with_reducible first | refine Tl.brT ?_ | refine Tl.brF ?_ | refine Tl.gd_on ?_ | refine Tl.gd3_on ?_) | ((with_reducible first | apply Tl.brC | apply Tl.gdC | apply Tl.gd3C); focus (simp (disch := omega) only [coreA, Int.reduceBEq, base_M1, bd34] <;> with_reducible rfl)))
  refine Tl.store' S1 0 rfl sz34 rfl rfl (by decide) fun h2 S2 g2 => ?_
  have r2 : h2.row b 0 4 = some ansC := S2.row 0 rfl rfl
  repeat (first | (with_reducible apply Tl.val; focus (simp (disch := omega) only [coreA, Int.reduceBEq, base_M1, ld34, r2] <;> with_reducible rfl)) | (with_reducible first | refine Tl.brT ?_ | refine Tl.brF ?_ | refine Tl.gd_on ?_ | refine Tl.gd3_on ?_) | ((with_reducible first | apply Tl.brC | apply Tl.gdC | apply Tl.gd3C); focus (simp (disch := omega) only [coreA, Int.reduceBEq, base_M1, ld34, r2] <;> with_reducible rfl)))
  exact ⟨_, rfl, rfl, S2.grow⟩
theorem f15c {k : Nat} {cs : Array Value} : Tl (eInv env (k + 2) (.func 15) #[] #[.pointer none, .agg cs] h) fun r => r.1 = ansV ∧ Grow h r.2 := by
  rw [F15_call]
  unfold F15
  refine Tl.box' (Stt.init h) rfl (by rw [sz40]; rfl) fun b0 h0 S0 _ => ?_
  refine Tl.alloc' S0 ze34 rfl fun b h1 S1 _ => ?_
  repeat (first | (with_reducible apply Tl.val; focus (simp (disch := omega) only [coreA, Int.reduceBEq, base_M1] <;> with_reducible rfl)) | (with_reducible first | refine Tl.brT ?_ | refine Tl.brF ?_ | refine Tl.gd_on ?_ | refine Tl.gd3_on ?_) | ((with_reducible first | apply Tl.brC | apply Tl.gdC | apply Tl.gd3C); focus (simp (disch := omega) only [coreA, Int.reduceBEq, base_M1] <;> with_reducible rfl)))
  refine Tl.call' S1 (f39c (k := k)) fun h2 S2 _ => ?_
  refine Tl.store' S2 0 rfl sz34 rfl rfl (by decide) fun h3 S3 _ => ?_
  have r3 : h3.row b 0 4 = some ansC := S3.row 0 rfl rfl
  repeat (first | (with_reducible apply Tl.val; focus (simp (disch := omega) only [coreA, Int.reduceBEq, base_M1, ld34, r3] <;> with_reducible rfl)) | (with_reducible first | refine Tl.brT ?_ | refine Tl.brF ?_ | refine Tl.gd_on ?_ | refine Tl.gd3_on ?_) | ((with_reducible first | apply Tl.brC | apply Tl.gdC | apply Tl.gd3C); focus (simp (disch := omega) only [coreA, Int.reduceBEq, base_M1, ld34, r3] <;> with_reducible rfl)))
  exact ⟨_, rfl, rfl, S3.grow⟩
theorem f44c {k : Nat} : eInv env (k + 2) (.func 44) #[] #[.slice none 0 0, .slice none 0 0] h = some (.bool true, h) := by
  have T : Tl (F44 (eInv env (k + 1)) (k + 1) (.slice none 0 0) (.slice none 0 0) h) fun r => r = (.bool true, h) := by
    unfold F44
    have l := l32 h
    repeat (first | (with_reducible apply Tl.val; focus (simp (disch := omega) only [coreA, Int.reduceBEq, base_M1, l] <;> with_reducible rfl)) | (with_reducible first | refine Tl.brT ?_ | refine Tl.brF ?_ | refine Tl.gd_on ?_ | refine Tl.gd3_on ?_) | ((with_reducible first | apply Tl.brC | apply Tl.gdC | apply Tl.gd3C); focus (simp (disch := omega) only [coreA, Int.reduceBEq, base_M1, l] <;> with_reducible rfl)))
    simp only [F44_lrlrr]
    repeat (first | (with_reducible apply Tl.val; focus (simp (disch := omega) only [coreA, Int.reduceBEq, base_M1] <;> with_reducible rfl)) | (with_reducible first | refine Tl.brT ?_ | refine Tl.brF ?_ | refine Tl.gd_on ?_ | refine Tl.gd3_on ?_) | ((with_reducible first | apply Tl.brC | apply Tl.gdC | apply Tl.gd3C); focus (simp (disch := omega) only [coreA, Int.reduceBEq, base_M1] <;> with_reducible rfl)))
    exact ⟨_, rfl, rfl⟩
  obtain ⟨r, h1, h2⟩ := T
  rw [F44_call, h1, h2]
theorem f45c {k : Nat} {f : Value} : eInv env (k + 2) (.func 45) #[] #[.slice none 0 0, .slice none 0 0, f] h = some (.bool true, h) := by
  have T : Tl (F45 (eInv env (k + 1)) (k + 1) (.slice none 0 0) (.slice none 0 0) f h) fun r => r = (.bool true, h) := by
    unfold F45
    have l := l31 h
    repeat (first | (with_reducible apply Tl.val; focus (simp (disch := omega) only [coreA, Int.reduceBEq, base_M1, l] <;> with_reducible rfl)) | (with_reducible first | refine Tl.brT ?_ | refine Tl.brF ?_ | refine Tl.gd_on ?_ | refine Tl.gd3_on ?_) | ((with_reducible first | apply Tl.brC | apply Tl.gdC | apply Tl.gd3C); focus (simp (disch := omega) only [coreA, Int.reduceBEq, base_M1, l] <;> with_reducible rfl)))
    simp only [F45_lrlrr]
    repeat (first | (with_reducible apply Tl.val; focus (simp (disch := omega) only [coreA, Int.reduceBEq, base_M1] <;> with_reducible rfl)) | (with_reducible first | refine Tl.brT ?_ | refine Tl.brF ?_ | refine Tl.gd_on ?_ | refine Tl.gd3_on ?_) | ((with_reducible first | apply Tl.brC | apply Tl.gdC | apply Tl.gd3C); focus (simp (disch := omega) only [coreA, Int.reduceBEq, base_M1] <;> with_reducible rfl)))
    exact ⟨_, rfl, rfl⟩
  obtain ⟨r, h1, h2⟩ := T
  rw [F45_call, h1, h2]
theorem f47c {k : Nat} {f : Value} : eInv env (k + 2) (.func 47) #[] #[.slice none 0 0, .slice none 0 0, f] h = some (.bool true, h) := by
  have T : Tl (F47 (eInv env (k + 1)) (k + 1) (.slice none 0 0) (.slice none 0 0) f h) fun r => r = (.bool true, h) := by
    unfold F47
    have l := l55 h
    repeat (first | (with_reducible apply Tl.val; focus (simp (disch := omega) only [coreA, Int.reduceBEq, base_M1, l] <;> with_reducible rfl)) | (with_reducible first | refine Tl.brT ?_ | refine Tl.brF ?_ | refine Tl.gd_on ?_ | refine Tl.gd3_on ?_) | ((with_reducible first | apply Tl.brC | apply Tl.gdC | apply Tl.gd3C); focus (simp (disch := omega) only [coreA, Int.reduceBEq, base_M1, l] <;> with_reducible rfl)))
    simp only [F47_lrlrr]
    repeat (first | (with_reducible apply Tl.val; focus (simp (disch := omega) only [coreA, Int.reduceBEq, base_M1] <;> with_reducible rfl)) | (with_reducible first | refine Tl.brT ?_ | refine Tl.brF ?_ | refine Tl.gd_on ?_ | refine Tl.gd3_on ?_) | ((with_reducible first | apply Tl.brC | apply Tl.gdC | apply Tl.gd3C); focus (simp (disch := omega) only [coreA, Int.reduceBEq, base_M1] <;> with_reducible rfl)))
    exact ⟨_, rfl, rfl⟩
  obtain ⟨r, h1, h2⟩ := T
  rw [F47_call, h1, h2]
theorem f49c {k : Nat} {f : Value} : eInv env (k + 2) (.func 49) #[] #[.slice none 0 0, .slice none 0 0, f] h = some (.bool true, h) := by
  have T : Tl (F49 (eInv env (k + 1)) (k + 1) (.slice none 0 0) (.slice none 0 0) f h) fun r => r = (.bool true, h) := by
    unfold F49
    have l := l56 h
    repeat (first | (with_reducible apply Tl.val; focus (simp (disch := omega) only [coreA, Int.reduceBEq, base_M1, l] <;> with_reducible rfl)) | (with_reducible first | refine Tl.brT ?_ | refine Tl.brF ?_ | refine Tl.gd_on ?_ | refine Tl.gd3_on ?_) | ((with_reducible first | apply Tl.brC | apply Tl.gdC | apply Tl.gd3C); focus (simp (disch := omega) only [coreA, Int.reduceBEq, base_M1, l] <;> with_reducible rfl)))
    simp only [F49_lrlrr]
    repeat (first | (with_reducible apply Tl.val; focus (simp (disch := omega) only [coreA, Int.reduceBEq, base_M1] <;> with_reducible rfl)) | (with_reducible first | refine Tl.brT ?_ | refine Tl.brF ?_ | refine Tl.gd_on ?_ | refine Tl.gd3_on ?_) | ((with_reducible first | apply Tl.brC | apply Tl.gdC | apply Tl.gd3C); focus (simp (disch := omega) only [coreA, Int.reduceBEq, base_M1] <;> with_reducible rfl)))
    exact ⟨_, rfl, rfl⟩
  obtain ⟨r, h1, h2⟩ := T
  rw [F49_call, h1, h2]
theorem f22c {k : Nat} : Tl (eInv env (k + 3) (.func 22) #[] #[ansV, ansV] h) fun r => r.1 = .bool true ∧ Grow h r.2 := by
  rw [F22_call]
  unfold F22
  refine Tl.box' (Stt.init h) rfl (by rw [sz34]; rfl) fun b1 h1 S1 _ => ?_
  refine Tl.box' S1 rfl (by rw [sz34]; rfl) fun b2 h2 S2 _ => ?_
  have a0 : h2.cell b1 0 = some (.int .i64 1) := S2.cell 1 rfl rfl
  have a1 : h2.cell b1 1 = some (.slice none 0 0) := S2.cell 1 rfl rfl
  have a2 : h2.cell b1 2 = some (.slice none 0 0) := S2.cell 1 rfl rfl
  have a3 : h2.cell b1 3 = some (.int .i64 0) := S2.cell 1 rfl rfl
  have c0 : h2.cell b2 0 = some (.int .i64 1) := S2.cell 0 rfl rfl
  have c1 : h2.cell b2 1 = some (.slice none 0 0) := S2.cell 0 rfl rfl
  have c2 : h2.cell b2 2 = some (.slice none 0 0) := S2.cell 0 rfl rfl
  have c3 : h2.cell b2 3 = some (.int .i64 0) := S2.cell 0 rfl rfl
  have e1 := f44c (k := k) (h := h2)
  have e2 := f45c (k := k) (f := .func (.func 42) #[] #[]) (h := h2)
  simp only [G22_2, Nat.zero_add]
  repeat (first | (with_reducible apply Tl.val; focus (simp (disch := omega) only [coreA, Int.reduceBEq, base_M1, a0, a1, a2, a3, c0, c1, c2, c3, e1, e2] <;> with_reducible rfl)) | (with_reducible first | refine Tl.brT ?_ | refine Tl.brF ?_ | refine Tl.gd_on ?_ | refine Tl.gd3_on ?_) | ((with_reducible first | apply Tl.brC | apply Tl.gdC | apply Tl.gd3C); focus (simp (disch := omega) only [coreA, Int.reduceBEq, base_M1, a0, a1, a2, a3, c0, c1, c2, c3, e1, e2] <;> with_reducible rfl)))
  exact ⟨_, rfl, rfl, S2.grow⟩
theorem f23c {k : Nat} : Tl (eInv env (k + 1) (.func 23) #[] #[.pointer none] h) fun r => r.1 = baseV ∧ Grow h r.2 := by
  rw [F23_call]
  unfold F23
  refine Tl.alloc' (Stt.init h) ze58 rfl fun b h1 S1 _ => ?_
  repeat (first | (with_reducible apply Tl.val; focus (simp (disch := omega) only [coreA, Int.reduceBEq, base_M1, bd58] <;> with_reducible rfl)) | (with_reducible first | refine Tl.brT ?_ | refine Tl.brF ?_ | refine Tl.gd_on ?_ | refine Tl.gd3_on ?_) | ((with_reducible first | apply Tl.brC | apply Tl.gdC | apply Tl.gd3C); focus (simp (disch := omega) only [coreA, Int.reduceBEq, base_M1, bd58] <;> with_reducible rfl)))
  refine Tl.store' S1 0 rfl sz58 rfl rfl (by decide) fun h2 S2 g2 => ?_
  have r2 : h2.row b 0 2 = some [.slice none 0 0, .slice none 0 0] := S2.row 0 rfl rfl
  repeat (first | (with_reducible apply Tl.val; focus (simp (disch := omega) only [coreA, Int.reduceBEq, base_M1, ld58, r2] <;> with_reducible rfl)) | (with_reducible first | refine Tl.brT ?_ | refine Tl.brF ?_ | refine Tl.gd_on ?_ | refine Tl.gd3_on ?_) | ((with_reducible first | apply Tl.brC | apply Tl.gdC | apply Tl.gd3C); focus (simp (disch := omega) only [coreA, Int.reduceBEq, base_M1, ld58, r2] <;> with_reducible rfl)))
  exact ⟨_, rfl, rfl, S2.grow⟩
theorem f24c {k : Nat} : Tl (eInv env (k + 1) (.func 24) #[] #[.pointer none] h) fun r => r.1 = baseV ∧ Grow h r.2 := by
  rw [F24_call]
  unfold F24
  refine Tl.alloc' (Stt.init h) ze58 rfl fun b h1 S1 _ => ?_
  repeat (first | (with_reducible apply Tl.val; focus (simp (disch := omega) only [coreA, Int.reduceBEq, base_M1, bd58] <;> with_reducible rfl)) | (with_reducible first | refine Tl.brT ?_ | refine Tl.brF ?_ | refine Tl.gd_on ?_ | refine Tl.gd3_on ?_) | ((with_reducible first | apply Tl.brC | apply Tl.gdC | apply Tl.gd3C); focus (simp (disch := omega) only [coreA, Int.reduceBEq, base_M1, bd58] <;> with_reducible rfl)))
  refine Tl.store' S1 0 rfl sz58 rfl rfl (by decide) fun h2 S2 g2 => ?_
  have r2 : h2.row b 0 2 = some [.slice none 0 0, .slice none 0 0] := S2.row 0 rfl rfl
  repeat (first | (with_reducible apply Tl.val; focus (simp (disch := omega) only [coreA, Int.reduceBEq, base_M1, ld58, r2] <;> with_reducible rfl)) | (with_reducible first | refine Tl.brT ?_ | refine Tl.brF ?_ | refine Tl.gd_on ?_ | refine Tl.gd3_on ?_) | ((with_reducible first | apply Tl.brC | apply Tl.gdC | apply Tl.gd3C); focus (simp (disch := omega) only [coreA, Int.reduceBEq, base_M1, ld58, r2] <;> with_reducible rfl)))
  exact ⟨_, rfl, rfl, S2.grow⟩
theorem f25c {k : Nat} : Tl (eInv env (k + 3) (.func 25) #[] #[baseV, baseV] h) fun r => r.1 = .bool true ∧ Grow h r.2 := by
  rw [F25_call]
  unfold F25
  refine Tl.box' (Stt.init h) rfl (by rw [sz58]; rfl) fun b1 h1 S1 _ => ?_
  refine Tl.box' S1 rfl (by rw [sz58]; rfl) fun b2 h2 S2 _ => ?_
  have a0 : h2.cell b1 0 = some (.slice none 0 0) := S2.cell 1 rfl rfl
  have a1 : h2.cell b1 1 = some (.slice none 0 0) := S2.cell 1 rfl rfl
  have c0 : h2.cell b2 0 = some (.slice none 0 0) := S2.cell 0 rfl rfl
  have c1 : h2.cell b2 1 = some (.slice none 0 0) := S2.cell 0 rfl rfl
  have e1 := f47c (k := k) (f := .func (.func 48) #[] #[]) (h := h2)
  have e2 := f49c (k := k) (f := .func (.func 50) #[] #[]) (h := h2)
  simp only [G25_1, Nat.zero_add]
  repeat (first | (with_reducible apply Tl.val; focus (simp (disch := omega) only [coreA, Int.reduceBEq, base_M1, a0, a1, c0, c1, e1, e2] <;> with_reducible rfl)) | (with_reducible first | refine Tl.brT ?_ | refine Tl.brF ?_ | refine Tl.gd_on ?_ | refine Tl.gd3_on ?_) | ((with_reducible first | apply Tl.brC | apply Tl.gdC | apply Tl.gd3C); focus (simp (disch := omega) only [coreA, Int.reduceBEq, base_M1, a0, a1, c0, c1, e1, e2] <;> with_reducible rfl)))
  exact ⟨_, rfl, rfl, S2.grow⟩
theorem f35c {k : Nat} : eInv env (k + 1) (.func 35) #[] #[.pointer none] h = some (.pointer none, h) := by
  have T : Tl (F35 (eInv env k) k (.pointer none) h) fun r => r = (.pointer none, h) := by
    unfold F35
    repeat (first | (with_reducible apply Tl.val; focus (simp (disch := omega) only [coreA, Int.reduceBEq, base_M1] <;> with_reducible rfl)) | (with_reducible first | refine Tl.brT ?_ | refine Tl.brF ?_ | refine Tl.gd_on ?_ | refine Tl.gd3_on ?_) | ((with_reducible first | apply Tl.brC | apply Tl.gdC | apply Tl.gd3C); focus (simp (disch := omega) only [coreA, Int.reduceBEq, base_M1] <;> with_reducible rfl)))
    exact ⟨_, rfl, rfl⟩
  obtain ⟨r, h1, h2⟩ := T
  rw [F35_call, h1, h2]
theorem f9 {k : Nat} {cs : Array Value} (hc : cs.size = 8) : Tl (F9 (eInv env (k + 10)) (k + 10) (.agg cs) h) fun r => r.1 = .bool true := by
  unfold F9
  refine Tl.box' (Stt.init h) rfl (by rw [sz40]; rfl) fun b0 h0 S0 _ => ?_
  have hlv := lives_call (k := k + 9) (h := h0)
  have r0 : h0.row b0 0 8 = some cs.toList := S0.row 0 rfl (by rw [Array.length_toList]; exact hc.symm)
  repeat (first | (with_reducible apply Tl.val; focus (simp (disch := omega) only [coreA, Int.reduceBEq, base_M1, hlv, ld40, r0] <;> with_reducible rfl)) | (with_reducible first | refine Tl.brT ?_ | refine Tl.brF ?_ | refine Tl.gd_on ?_ | refine Tl.gd3_on ?_) | ((with_reducible first | apply Tl.brC | apply Tl.gdC | apply Tl.gd3C); focus (simp (disch := omega) only [coreA, Int.reduceBEq, base_M1, hlv, ld40, r0] <;> with_reducible rfl)))
  refine Tl.call' S0 (f15c (k := k + 8)) fun h1 S1 _ => ?_
  refine Tl.alloc' S1 ze34 rfl fun b h2 S2 _ => ?_
  refine Tl.store' S2 0 rfl sz34 rfl rfl (by decide) fun h3 S3 _ => ?_
  have c0 : h3.cell b 0 = some (.int .i64 1) := S3.cell 0 rfl rfl
  have r3 : h3.row b 0 4 = some ansC := S3.row 0 rfl rfl
  simp only [G9_5, Nat.zero_add]
  repeat (first | (with_reducible apply Tl.val; focus (simp (disch := omega) only [coreA, Int.reduceBEq, base_M1, c0, ld34, r3, bd34] <;> with_reducible rfl)) | (with_reducible first | refine Tl.brT ?_ | refine Tl.brF ?_ | refine Tl.gd_on ?_ | refine Tl.gd3_on ?_) | ((with_reducible first | apply Tl.brC | apply Tl.gdC | apply Tl.gd3C); focus (simp (disch := omega) only [coreA, Int.reduceBEq, base_M1, c0, ld34, r3, bd34] <;> with_reducible rfl)))
  refine Tl.call' S3 (f22c (k := k + 7)) fun h4 S4 _ => ?_
  repeat (first | (with_reducible apply Tl.val; focus (simp (disch := omega) only [coreA, Int.reduceBEq, base_M1] <;> with_reducible rfl)) | (with_reducible first | refine Tl.brT ?_ | refine Tl.brF ?_ | refine Tl.gd_on ?_ | refine Tl.gd3_on ?_) | ((with_reducible first | apply Tl.brC | apply Tl.gdC | apply Tl.gd3C); focus (simp (disch := omega) only [coreA, Int.reduceBEq, base_M1] <;> with_reducible rfl)))
  refine Tl.call' S4 (f23c (k := k + 9)) fun h5 S5 _ => ?_
  repeat (first | (with_reducible apply Tl.val; focus (simp (disch := omega) only [coreA, Int.reduceBEq, base_M1, bd58] <;> with_reducible rfl)) | (with_reducible first | refine Tl.brT ?_ | refine Tl.brF ?_ | refine Tl.gd_on ?_ | refine Tl.gd3_on ?_) | ((with_reducible first | apply Tl.brC | apply Tl.gdC | apply Tl.gd3C); focus (simp (disch := omega) only [coreA, Int.reduceBEq, base_M1, bd58] <;> with_reducible rfl)))
  refine Tl.call' S5 (f25c (k := k + 7)) fun h6 S6 _ => ?_
  repeat (first | (with_reducible apply Tl.val; focus (simp (disch := omega) only [coreA, Int.reduceBEq, base_M1] <;> with_reducible rfl)) | (with_reducible first | refine Tl.brT ?_ | refine Tl.brF ?_ | refine Tl.gd_on ?_ | refine Tl.gd3_on ?_) | ((with_reducible first | apply Tl.brC | apply Tl.gdC | apply Tl.gd3C); focus (simp (disch := omega) only [coreA, Int.reduceBEq, base_M1] <;> with_reducible rfl)))
  refine Tl.call' S6 (f24c (k := k + 9)) fun h7 S7 _ => ?_
  repeat (first | (with_reducible apply Tl.val; focus (simp (disch := omega) only [coreA, Int.reduceBEq, base_M1, bd58] <;> with_reducible rfl)) | (with_reducible first | refine Tl.brT ?_ | refine Tl.brF ?_ | refine Tl.gd_on ?_ | refine Tl.gd3_on ?_) | ((with_reducible first | apply Tl.brC | apply Tl.gdC | apply Tl.gd3C); focus (simp (disch := omega) only [coreA, Int.reduceBEq, base_M1, bd58] <;> with_reducible rfl)))
  refine Tl.call' S7 (f25c (k := k + 7)) fun h8 S8 _ => ?_
  have e := f35c (k := k + 9) (h := h8)
  repeat (first | (with_reducible apply Tl.val; focus (simp (disch := omega) only [coreA, Int.reduceBEq, base_M1, e] <;> with_reducible rfl)) | (with_reducible first | refine Tl.brT ?_ | refine Tl.brF ?_ | refine Tl.gd_on ?_ | refine Tl.gd3_on ?_) | ((with_reducible first | apply Tl.brC | apply Tl.gdC | apply Tl.gd3C); focus (simp (disch := omega) only [coreA, Int.reduceBEq, base_M1, e] <;> with_reducible rfl)))
  exact ⟨_, rfl, rfl⟩
end
end Go.Proofs.YtkdjlihldeafoaaGreat.Sh
