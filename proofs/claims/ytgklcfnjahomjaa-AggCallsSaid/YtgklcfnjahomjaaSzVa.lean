/- What 'value.Compare' comes to: cells are ordered. -/
import Derived.Test.YtgklcfnjahomjaaSzF
import Derived.Test.YtgklcfnjahomjaaSzT
import Derived.Test.YtgklcfnjahomjaaOrdC
import Derived.KernelRfl
set_option linter.unusedVariables false
set_option linter.unusedSimpArgs false
set_option maxRecDepth 100000
namespace Go.Proofs.Ytgklcfnjahomjaa.Sh
open Go Go.RowKit Go.Proofs.Ev Go.Lib
theorem bzVa : type_of% (And.intro @ld3 (And.intro @ld2 (And.intro @ld9 (And.intro @fa37_0 (And.intro @fa37_1 (@fa37_2)))))):=And.intro @ld3 (And.intro @ld2 (And.intro @ld9 (And.intro @fa37_0 (And.intro @fa37_1 (@fa37_2)))))
theorem f125e {k : Nat} (a : Int) (h : AH) : eInv env (k + 1) (.func 125) #[] #[.int .i64 a] h = some (.bool false,h):=by
 rw [F125_call]
 unfold F125
 simp only [bin_neq,bnd_some,bne_self_eq_false]
theorem f126e {k : Nat} (a : Int) (h : AH) : eInv env (k + 1) (.func 126) #[] #[.int .i64 a] h = some (.bool false,h):=by
 rw [F126_call]
 unfold F126
 simp only [bin_neq,bnd_some,bne_self_eq_false]
theorem f122e {k : Nat} (a b : Int) (h : AH) : eInv env (k + 2) (.func 122) #[] #[.int .i64 a,.int .i64 b] h = some (.int .i64 (cmpI a b),h):=by
 rw [F122_call]
 unfold F122
 simp only [f125e,bnd_some,brV_false,bin_lss,bin_gtr,brV_bool]
 unfold cmpI
 by_cases h1 : a < b
 ·simp [h1,goInt]
 ·by_cases h2 : b < a <;> simp [h1,h2,goInt]
theorem f123e {k : Nat} (a b : Int) (h : AH) : eInv env (k + 2) (.func 123) #[] #[.int .i64 a,.int .i64 b] h = some (.int .i64 (cmpI a b),h):=by
 rw [F123_call]
 unfold F123
 simp only [f126e,bnd_some,brV_false,bin_lss,bin_gtr,brV_bool]
 unfold cmpI
 by_cases h1 : a < b
 ·simp [h1,goInt]
 ·by_cases h2 : b < a <;> simp [h1,h2,goInt]
theorem f128e {k : Nat} (a b : ByteArray) (h : AH) : eInv env (k + 1) (.func 128) #[] #[.string a,.string b] h = some (.int .i64 (compareBytes a.data.toList b.data.toList),h):=by
 rw [inv_ext (g:=cmpX) rfl]
 unfold cmpX
 simp [cmp_eq,goInt]
theorem f124e {k : Nat} (a b : ByteArray) (h : AH) : eInv env (k + 3) (.func 124) #[] #[.string a,.string b] h = some (.int .i64 (compareBytes a.data.toList b.data.toList),h):=by
 rw [F124_call]
 unfold F124
 simp only [F127_call]
 unfold F127
 simp only [f128e,bnd_some]
/-- 'cmp.Or' of three. -/
theorem f121e {k : Nat} (a b c : Int) {h : AH} {bl : Nat} {e : TypeId} (hg : h.get bl = some (.cells [.int .i64 a,.int .i64 b,.int .i64 c] e true)) :
  eInv env (k + 5) (.func 121) #[] #[.slice (some ⟨bl,0,none⟩) 3 3] h = some (.int .i64 (orI a (orI b c)),h):=by
 rw [F121_call]
 unfold F121
 simp only [len_slice u24,bnd_some]
 have r0 : h.cell bl 0 = some (.int .i64 a):=by rw [cell_of hg]; rfl
 have r1 : h.cell bl 1 = some (.int .i64 b):=by rw [cell_of hg]; rfl
 have r2 : h.cell bl 2 = some (.int .i64 c):=by rw [cell_of hg]; rfl
 have i0 : pIndexAddr Try.prog 24 (.slice (some ⟨bl,0,none⟩) 3 3) (.int .i64 0) = some (.pointer (some ⟨bl,0,none⟩)):=indexAddr_slice u24 sz3 (by decide) (by decide)
 have i1 : pIndexAddr Try.prog 24 (.slice (some ⟨bl,0,none⟩) 3 3) (.int .i64 1) = some (.pointer (some ⟨bl,1,none⟩)):=indexAddr_slice u24 sz3 (by decide) (by decide)
 have i2 : pIndexAddr Try.prog 24 (.slice (some ⟨bl,0,none⟩) 3 3) (.int .i64 2) = some (.pointer (some ⟨bl,2,none⟩)):=indexAddr_slice u24 sz3 (by decide) (by decide)
 have w1 : IntKind.i64.wrap (0 + 1) = 1:=by decide
 have w2 : IntKind.i64.wrap (1 + 1) = 2:=by decide
 have w3 : IntKind.i64.wrap (2 + 1) = 3:=by decide
 unfold orI
 simp only [F121_lrlrr,goInt,bin_lss,bnd_some,brV_bool,i0,i1,i2,ld3,r0,r1,r2,bin_neq,bin_add,w1,w2,w3]
 have ne : ∀ z : Int,¬z = 0→(z != 0) = true:=fun z hz=>by simpa using hz
 by_cases ha : a = 0
 ·by_cases hb : b = 0
  ·by_cases hc : c = 0
   ·simp [ha,hb,hc]
   ·simp [ha,hb,hc,ne c hc]
  ·simp [ha,hb,ne b hb]
 ·simp [ha,ne a ha]
theorem bs324 (a b c : Int) (h : AH) : pBuildSlice Try.prog 24 3 #[(0,.int .i64 a),(1,.int .i64 b),(2,.int .i64 c)] h = some (.slice (some ⟨h.n,0,none⟩) 3 3,h.alloc (.cells [.int .i64 a,.int .i64 b,.int .i64 c] 3 true)):=by kernel_rfl
/-- 'Compare'. -/
theorem f120c {k : Nat} (a b : CellD) (h : AH) : Tl (eInv env (k + 9) (.func 120) #[] #[a.v,b.v] h) fun r=>r.1 = .int .i64 (a.cmp b) ∧ Grow h r.2:=by
 rw [F120_call]
 unfold F120
 refine Tl.box' (Stt.init h) rfl (by rw [sz37]; rfl) fun b1 h1 S1 _=>?_
 refine Tl.box' S1 rfl (by rw [sz37]; rfl) fun b2 h2 S2 _=>?_
 have a0:=S2.cell (o:=0) (v:=.int .i64 a.k) 1 rfl rfl
 have a1:=S2.cell (o:=1) (v:=.int .i64 a.i) 1 rfl rfl
 have a2:=S2.cell (o:=2) (v:=.string a.s) 1 rfl rfl
 have c0:=S2.cell (o:=0) (v:=.int .i64 b.k) 0 rfl rfl
 have c1:=S2.cell (o:=1) (v:=.int .i64 b.i) 0 rfl rfl
 have c2:=S2.cell (o:=2) (v:=.string b.s) 0 rfl rfl
 repeat (first | (with_reducible apply qzV; simp (disch:=omega) only [coreA,Int.reduceBEq,bzVa,a0,a1,a2,c0,c1,c2,f122e,f123e,f124e,bs324,f121e _ _ _ (AH.get_alloc_new _ _)] <;> with_reducible rfl) | (with_reducible first | apply qzT | apply qzF | apply qzG | apply qzH) | ((with_reducible first | apply qzB | apply qzC | apply qzD); simp (disch:=omega) only [coreA,Int.reduceBEq,bzVa,a0,a1,a2,c0,c1,c2,f122e,f123e,f124e,bs324,f121e _ _ _ (AH.get_alloc_new _ _)] <;> with_reducible rfl))
 simp only [ld3,ld2,ld9,Nat.zero_add,a0,a1,a2,c0,c1,c2,sameO_some,sameV_int,sameV_string,Bool.and_self,Bool.not_true,Bool.or_true,Bool.true_and,Bool.false_or,chkK_t]
 exact ⟨_,rfl,rfl,(S2.grow).trans (Grow.alloc _ _)⟩
end Go.Proofs.Ytgklcfnjahomjaa.Sh
