/- Cells held against each other; which cells may be. -/
import Derived.Test.YtgklcfnjahomjaaSzVb
set_option linter.unusedVariables false
set_option linter.unusedSimpArgs false
set_option maxRecDepth 100000
namespace Go.Proofs.Ytgklcfnjahomjaa.Sh
open Go Go.RowKit Go.Proofs.Ev
theorem bzVf : type_of% (And.intro @ld3 (And.intro @ld2 (And.intro @ld9 (And.intro @ld37 (And.intro @fa37_0 (And.intro @fa37_1 (And.intro @fa37_2 (@Nat.add_zero)))))))):=And.intro @ld3 (And.intro @ld2 (And.intro @ld9 (And.intro @ld37 (And.intro @fa37_0 (And.intro @fa37_1 (And.intro @fa37_2 (@Nat.add_zero)))))))
theorem stC : Try.prog.underlying 37 = some (.struct (Try.prog.fieldsOf 37)):=by kernel_rfl
theorem egC : Try.prog.eqGuardType Try.prog.depth 37 = false:=by kernel_rfl
theorem shC : Try.prog.stoodInHeld 37 = false:=by kernel_rfl
theorem fsC : (Try.prog.fieldsOf 37).toList = [{ name := "Kind", type := 3, offset := 0, embedded := false, tag := "", pkgPath := "", byteOffset := 0 }, { name := "Int", type := 2, offset := 1, embedded := false, tag := "", pkgPath := "", byteOffset := 8 }, { name := "Text", type := 9, offset := 2, embedded := false, tag := "", pkgPath := "", byteOffset := 16 }] := by kernel_rfl
theorem ptC_0 (k i : Int) (s : ByteArray) : prun Try.prog (part 3 #[.int .i64 k,.int .i64 i,.string s] 0) = some (.int .i64 k):=by kernel_rfl
theorem ptC_1 (k i : Int) (s : ByteArray) : prun Try.prog (part 2 #[.int .i64 k,.int .i64 i,.string s] 1) = some (.int .i64 i):=by kernel_rfl
theorem ptC_2 (k i : Int) (s : ByteArray) : prun Try.prog (part 9 #[.int .i64 k,.int .i64 i,.string s] 2) = some (.string s):=by kernel_rfl
theorem eqC (d : Nat) (a b : CellD) : prun Try.prog (Op.equalIn (d + 2) 37 a.v b.v) = some (decide (a = b)):=by
 unfold CellD.v
 rw [prun_equal_struct stC shC,fsC]
 simp only [prunFields,ne_eq,String.reduceEq,not_false_eq_true,if_true,ptC_0,ptC_1,ptC_2,Option.bind_some,prun_equal_int u3,prun_equal_int u2,prun_equal_string u9]
 have key : (a = b) ↔ a.k = b.k ∧ a.i = b.i ∧ a.s = b.s:=by
  constructor
  ·rintro rfl; exact ⟨rfl,rfl,rfl⟩
  ·rintro ⟨h1,h2,h3⟩; exact CellD.ext' h1 h2 (by unfold CellD.bytes; rw [h3])
 rw [beqB_dec]
 by_cases h1 : a.k = b.k
 ·by_cases h2 : a.i = b.i
  ·by_cases h3 : a.s = b.s
   ·simp [key,h1,h2,h3]
   ·simp [key,h1,h2,h3]
  ·have : (a.i == b.i) = false:=by simpa using h2
   simp [key,h1,h2,this]
 ·have : (a.k == b.k) = false:=by simpa using h1
  simp [key,h1,this]
theorem eqlC (a b : CellD) {x y : Operand} : pBin Try.prog .eql 37 x y a.v b.v = some (.bool (decide (a = b))):=bin_eql_agg rfl rfl egC (eqC 9998 a b)
theorem neqC (a b : CellD) {x y : Operand} : pBin Try.prog .neq 37 x y a.v b.v = some (.bool (!decide (a = b))):=bin_neq_agg rfl rfl egC (eqC 9998 a b)
def cellZ : CellD:=⟨0,0,.empty⟩
theorem bdC0 : pBuild Try.prog 37 #[] = some (CellD.v cellZ):=by kernel_rfl
theorem size0 {s : ByteArray} : s = .empty ↔ s.size = 0:=by
 constructor
 ·rintro rfl; rfl
 ·intro h
  obtain ⟨a⟩:=s
  have : a = #[]:=Array.eq_empty_of_size_eq_zero h
  rw [this]; rfl
theorem str0 {x y : Operand} {s : ByteArray} : pBin Try.prog .eql 9 x y (.string s) (.string { data:=#[] }) = some (.bool (decide (s.size = 0))):=by
 rw [bin_eql_string]
 congr 2
 exact decide_eq_decide.2 size0
theorem cellZ_iff {c : CellD} : c = cellZ ↔ c.k = 0 ∧ c.i = 0 ∧ c.s.size = 0:=by
 constructor
 ·rintro rfl; exact ⟨rfl,rfl,rfl⟩
 ·rintro ⟨h1,h2,h3⟩
  exact CellD.ext' h1 h2 (by rw [CellD.bytes,size0.2 h3]; rfl)
/-- Which cells may be. -/
def cellOk (c : CellD) : Bool :=
 if c.k = 0 then decide (c.i = 0) && decide (c.s.size = 0) else if c.k = 1 then decide (c.s.size = 0) else if c.k = 2 then decide (c.s.size = 0) && (decide (c.i = 0) || decide (c.i = 1))
 else if c.k = 3 then decide (c.i = 0) && decide (c.s.size ≤ 256) else false
theorem f66c {k : Nat} (c : CellD) (h : AH) : Tl (eInv env (k + 1) (.func 66) #[] #[c.v] h) fun r=>r.1 = .int .i64 (if cellOk c then 0 else 160) ∧ Grow h r.2:=by
 rw [F66_call]
 unfold F66
 refine Tl.box' (Stt.init h) rfl (by rw [sz37]; rfl) fun b1 h1 S1 _=>?_
 have c0:=S1.cell (o:=0) (v:=.int .i64 c.k) 0 rfl rfl
 have c1:=S1.cell (o:=1) (v:=.int .i64 c.i) 0 rfl rfl
 have c2:=S1.cell (o:=2) (v:=.string c.s) 0 rfl rfl
 have hs : ∀ h' : AH,pLen Try.prog #[9] (.string c.s) h' = some (.int .i64 c.s.size):=fun h'=>len_string u9
 unfold F66_rlrr
 unfold cellOk
 by_cases k0 : c.k = 0
 ·rw [if_pos k0]
  by_cases i0 : c.i = 0 <;> by_cases s0 : c.s.size = 0 <;> simp only [i0,s0,decide_true,decide_false,Bool.and_true,Bool.true_and,Bool.and_false,Bool.false_and,if_true,if_false,Bool.false_eq_true]
  all_goals
   repeat (first | (with_reducible apply qzV; simp (disch:=omega) only [coreA,Int.reduceBEq,bzVf,c0,c1,c2,str0,s0] <;> with_reducible rfl) | (with_reducible first | apply qzT | apply qzF | apply qzG | apply qzH) | ((with_reducible first | apply qzB | apply qzC | apply qzD); simp (disch:=omega) only [coreA,Int.reduceBEq,bzVf,c0,c1,c2,str0,s0] <;> with_reducible rfl))
   exact ⟨_,rfl,rfl,S1.grow⟩
 rw [if_neg k0]
 by_cases k1 : c.k = 1
 ·rw [if_pos k1]
  by_cases s0 : c.s.size = 0 <;> simp only [s0,decide_true,decide_false,Bool.and_true,Bool.true_and,Bool.and_false,Bool.false_and,if_true,if_false,Bool.false_eq_true]
  all_goals
   repeat (first | (with_reducible apply qzV; simp (disch:=omega) only [coreA,Int.reduceBEq,bzVf,c0,c1,c2,str0,s0] <;> with_reducible rfl) | (with_reducible first | apply qzT | apply qzF | apply qzG | apply qzH) | ((with_reducible first | apply qzB | apply qzC | apply qzD); simp (disch:=omega) only [coreA,Int.reduceBEq,bzVf,c0,c1,c2,str0,s0] <;> with_reducible rfl))
   exact ⟨_,rfl,rfl,S1.grow⟩
 rw [if_neg k1]
 by_cases k2 : c.k = 2
 ·rw [if_pos k2]
  by_cases s0 : c.s.size = 0
  ·by_cases i0 : c.i = 0
   ·simp only [s0,i0,decide_true,decide_false,Bool.and_true,Bool.true_and,Bool.and_false,Bool.false_and,Bool.true_or,if_true,if_false,Bool.false_eq_true]
    repeat (first | (with_reducible apply qzV; simp (disch:=omega) only [coreA,Int.reduceBEq,bzVf,c0,c1,c2,str0,s0] <;> with_reducible rfl) | (with_reducible first | apply qzT | apply qzF | apply qzG | apply qzH) | ((with_reducible first | apply qzB | apply qzC | apply qzD); simp (disch:=omega) only [coreA,Int.reduceBEq,bzVf,c0,c1,c2,str0,s0] <;> with_reducible rfl))
    exact ⟨_,rfl,rfl,S1.grow⟩
   ·by_cases i1 : c.i = 1
    ·simp only [s0,i0,i1,decide_true,decide_false,Bool.and_true,Bool.true_and,Bool.and_false,Bool.false_and,Bool.or_true,if_true,if_false,Bool.false_eq_true]
     repeat (first | (with_reducible apply qzV; simp (disch:=omega) only [coreA,Int.reduceBEq,bzVf,c0,c1,c2,str0,s0] <;> with_reducible rfl) | (with_reducible first | apply qzT | apply qzF | apply qzG | apply qzH) | ((with_reducible first | apply qzB | apply qzC | apply qzD); simp (disch:=omega) only [coreA,Int.reduceBEq,bzVf,c0,c1,c2,str0,s0] <;> with_reducible rfl))
     exact ⟨_,rfl,rfl,S1.grow⟩
    ·simp only [s0,i0,i1,decide_true,decide_false,Bool.and_true,Bool.true_and,Bool.and_false,Bool.false_and,Bool.or_false,if_true,if_false,Bool.false_eq_true]
     repeat (first | (with_reducible apply qzV; simp (disch:=omega) only [coreA,Int.reduceBEq,bzVf,c0,c1,c2,str0,s0] <;> with_reducible rfl) | (with_reducible first | apply qzT | apply qzF | apply qzG | apply qzH) | ((with_reducible first | apply qzB | apply qzC | apply qzD); simp (disch:=omega) only [coreA,Int.reduceBEq,bzVf,c0,c1,c2,str0,s0] <;> with_reducible rfl))
     exact ⟨_,rfl,rfl,S1.grow⟩
  ·simp only [s0,decide_true,decide_false,Bool.and_true,Bool.true_and,Bool.and_false,Bool.false_and,if_true,if_false,Bool.false_eq_true]
   repeat (first | (with_reducible apply qzV; simp (disch:=omega) only [coreA,Int.reduceBEq,bzVf,c0,c1,c2,str0,s0] <;> with_reducible rfl) | (with_reducible first | apply qzT | apply qzF | apply qzG | apply qzH) | ((with_reducible first | apply qzB | apply qzC | apply qzD); simp (disch:=omega) only [coreA,Int.reduceBEq,bzVf,c0,c1,c2,str0,s0] <;> with_reducible rfl))
   exact ⟨_,rfl,rfl,S1.grow⟩
 rw [if_neg k2]
 by_cases k3 : c.k = 3
 ·rw [if_pos k3]
  by_cases i0 : c.i = 0 <;> by_cases s0 : c.s.size ≤ 256 <;> simp only [i0,s0,decide_true,decide_false,Bool.and_true,Bool.true_and,Bool.and_false,Bool.false_and,if_true,if_false,Bool.false_eq_true]
  all_goals
   repeat (first | (with_reducible apply qzV; simp (disch:=omega) only [coreA,Int.reduceBEq,bzVf,c0,c1,c2,hs] <;> with_reducible rfl) | (with_reducible first | apply qzT | apply qzF | apply qzG | apply qzH) | ((with_reducible first | apply qzB | apply qzC | apply qzD); simp (disch:=omega) only [coreA,Int.reduceBEq,bzVf,c0,c1,c2,hs] <;> with_reducible rfl))
   exact ⟨_,rfl,rfl,S1.grow⟩
 rw [if_neg k3]
 simp only [if_false,Bool.false_eq_true]
 repeat (first | (with_reducible apply qzV; simp (disch:=omega) only [coreA,Int.reduceBEq,bzVf,c0,c1,c2] <;> with_reducible rfl) | (with_reducible first | apply qzT | apply qzF | apply qzG | apply qzH) | ((with_reducible first | apply qzB | apply qzC | apply qzD); simp (disch:=omega) only [coreA,Int.reduceBEq,bzVf,c0,c1,c2] <;> with_reducible rfl))
 exact ⟨_,rfl,rfl,S1.grow⟩
/-! ### 'x &^ 1' -/
theorem andn1 {x y : Operand} (i : Int) (hi : -9223372036854775808 ≤ i ∧ i ≤ 9223372036854775807) : ∃ z,pBin Try.prog .andNot 2 x y (.int .i64 i) (.int .i64 1) = some (.int .i64 z) ∧ (z = 0 ↔ i = 0 ∨ i = 1):=by
 have h1 : pBin Try.prog .andNot 2 x y (.int .i64 i) (.int .i64 1) = some (.int .i64 (IntKind.i64.wrap (BitVec.ofInt 64 i &&& ~~~BitVec.ofInt 64 1).toNat)):=rfl
 refine ⟨_,h1,?_⟩
 have hlt : (BitVec.ofInt 64 i &&& ~~~BitVec.ofInt 64 1).toNat < 2 ^ 64:=BitVec.isLt _
 have hw : IntKind.i64.wrap ((BitVec.ofInt 64 i &&& ~~~BitVec.ofInt 64 1).toNat : Int) = 0 ↔ (BitVec.ofInt 64 i &&& ~~~BitVec.ofInt 64 1) = 0#64:=by
  rw [← BitVec.toNat_inj]
  have key : ∀ n : Nat,n < 2 ^ 64→(IntKind.i64.wrap (n : Int) = 0 ↔ n = 0):=by
   intro n hn
   unfold IntKind.wrap
   simp [IntKind.signed,IntKind.bits]
   omega
  exact key _ hlt
 rw [hw]
 have hb : (BitVec.ofInt 64 i &&& ~~~BitVec.ofInt 64 1) = 0#64 ↔ BitVec.ofInt 64 i = 0#64 ∨ BitVec.ofInt 64 i = 1#64:=by
  generalize BitVec.ofInt 64 i = x
  constructor
  ·intro h
   have hx : x = x &&& 1#64:=by
    refine BitVec.eq_of_getLsbD_eq fun j hj=>?_
    have:=congrArg (fun v : BitVec 64=>v.getLsbD j) h
    simp only [BitVec.getLsbD_and,BitVec.getLsbD_not,BitVec.getLsbD_zero] at this ⊢
    have e1 : (BitVec.ofInt 64 1) = 1#64:=rfl
    rw [e1] at this
    cases h1 : x.getLsbD j
    ·rfl
    ·rw [h1] at this
     simp [hj] at this
     simp [this]
   have h2 : x.toNat = x.toNat % 2:=by
    have:=congrArg BitVec.toNat hx
    rw [BitVec.toNat_and] at this
    have e : (1#64).toNat = 2 ^ 1 - 1:=rfl
    rw [e,Nat.and_two_pow_sub_one_eq_mod] at this
    simpa using this
   have h3 : x.toNat = 0 ∨ x.toNat = 1:=by omega
   rcases h3 with h3 | h3
   ·left; exact BitVec.eq_of_toNat_eq h3
   ·right; exact BitVec.eq_of_toNat_eq h3
  ·rintro (rfl | rfl) <;> rfl
 rw [hb]
 have e0 : BitVec.ofInt 64 i = 0#64 ↔ i = 0:=by
  rw [← BitVec.toInt_inj,BitVec.toInt_ofInt]
  simp [Int.bmod]
  omega
 have e1 : BitVec.ofInt 64 i = 1#64 ↔ i = 1:=by
  rw [← BitVec.toInt_inj,BitVec.toInt_ofInt]
  have : (1#64).toInt = 1:=rfl
  rw [this]
  simp [Int.bmod]
  omega
 rw [e0,e1]
def cellR (c : CellD) : Prop:=-9223372036854775808 ≤ c.i ∧ c.i ≤ 9223372036854775807
theorem f70c {k : Nat} (c : CellD) (hc : cellR c) (h : AH) : Tl (eInv env (k + 1) (.func 70) #[] #[c.v] h) fun r=>r.1 = .int .i64 (if cellOk c then 0 else 160) ∧ Grow h r.2:=by
 rw [F70_call]
 unfold F70
 refine Tl.box' (Stt.init h) rfl (by rw [sz37]; rfl) fun b1 h1 S1 _=>?_
 have c0:=S1.cell (o:=0) (v:=.int .i64 c.k) 0 rfl rfl
 have c1:=S1.cell (o:=1) (v:=.int .i64 c.i) 0 rfl rfl
 have c2:=S1.cell (o:=2) (v:=.string c.s) 0 rfl rfl
 have r3 : h1.row b1 0 3 = some (crow c):=S1.row 0 rfl rfl
 have hs : ∀ h' : AH,pLen Try.prog #[9] (.string c.s) h' = some (.int .i64 c.s.size):=fun h'=>len_string u9
 unfold F70_rlrr
 unfold cellOk
 by_cases k0 : c.k = 0
 ·rw [if_pos k0]
  have he : ∀ x y,pBin Try.prog .eql 37 x y (.agg (crow c).toArray) cellZ.v = some (.bool (decide (c = cellZ))):=fun x y=>eqlC c cellZ
  have hd : (decide (c = cellZ)) = (decide (c.i = 0) && decide (c.s.size = 0)):=by
   rw [← Bool.decide_and]
   exact decide_eq_decide.2 (cellZ_iff.trans ⟨fun h=>h.2,fun h=>⟨k0,h⟩⟩)
  by_cases i0 : c.i = 0 <;> by_cases s0 : c.s.size = 0 <;> simp only [i0,s0,decide_true,decide_false,Bool.and_true,Bool.true_and,Bool.and_false,Bool.false_and] at hd ⊢
  all_goals
   repeat (first | (with_reducible apply qzV; simp (disch:=omega) only [coreA,Int.reduceBEq,bzVf,c0,r3,bdC0,he,hd] <;> with_reducible rfl) | (with_reducible first | apply qzT | apply qzF | apply qzG | apply qzH) | ((with_reducible first | apply qzB | apply qzC | apply qzD); simp (disch:=omega) only [coreA,Int.reduceBEq,bzVf,c0,r3,bdC0,he,hd] <;> with_reducible rfl))
   exact ⟨_,rfl,rfl,S1.grow⟩
 rw [if_neg k0]
 by_cases k1 : c.k = 1
 ·rw [if_pos k1]
  by_cases s0 : c.s.size = 0 <;> simp only [s0,decide_true,decide_false,Bool.and_true,Bool.true_and,Bool.and_false,Bool.false_and,if_true,if_false,Bool.false_eq_true]
  all_goals
   repeat (first | (with_reducible apply qzV; simp (disch:=omega) only [coreA,Int.reduceBEq,bzVf,c0,c1,c2,str0,s0] <;> with_reducible rfl) | (with_reducible first | apply qzT | apply qzF | apply qzG | apply qzH) | ((with_reducible first | apply qzB | apply qzC | apply qzD); simp (disch:=omega) only [coreA,Int.reduceBEq,bzVf,c0,c1,c2,str0,s0] <;> with_reducible rfl))
   exact ⟨_,rfl,rfl,S1.grow⟩
 rw [if_neg k1]
 by_cases k2 : c.k = 2
 ·rw [if_pos k2]
  obtain ⟨z,hz,hz0⟩:=andn1 (x:=.tmp 23) (y:=.const (.int .i64 1)) c.i hc
  by_cases s0 : c.s.size = 0
  ·by_cases q : c.i = 0 ∨ c.i = 1
   ·have z0:=hz0.2 q
    have e : (decide (c.s.size = 0) && (decide (c.i = 0) || decide (c.i = 1))) = true:=by
     rcases q with q | q <;> simp [s0,q]
    rw [e]
    repeat (first | (with_reducible apply qzV; simp (disch:=omega) only [coreA,Int.reduceBEq,bzVf,c0,c1,c2,str0,s0,hz] <;> with_reducible rfl) | (with_reducible first | apply qzT | apply qzF | apply qzG | apply qzH) | ((with_reducible first | apply qzB | apply qzC | apply qzD); simp (disch:=omega) only [coreA,Int.reduceBEq,bzVf,c0,c1,c2,str0,s0,hz] <;> with_reducible rfl))
    exact ⟨_,rfl,rfl,S1.grow⟩
   ·have z0 : ¬ z = 0:=fun q'=>q (hz0.1 q')
    have e : (decide (c.s.size = 0) && (decide (c.i = 0) || decide (c.i = 1))) = false:=by
     have q1 : ¬ c.i = 0:=fun h=>q (.inl h)
     have q2 : ¬ c.i = 1:=fun h=>q (.inr h)
     simp [q1,q2]
    rw [e]
    repeat (first | (with_reducible apply qzV; simp (disch:=omega) only [coreA,Int.reduceBEq,bzVf,c0,c1,c2,str0,s0,hz] <;> with_reducible rfl) | (with_reducible first | apply qzT | apply qzF | apply qzG | apply qzH) | ((with_reducible first | apply qzB | apply qzC | apply qzD); simp (disch:=omega) only [coreA,Int.reduceBEq,bzVf,c0,c1,c2,str0,s0,hz] <;> with_reducible rfl))
    exact ⟨_,rfl,rfl,S1.grow⟩
  ·simp only [s0,decide_true,decide_false,Bool.and_true,Bool.true_and,Bool.and_false,Bool.false_and,if_true,if_false,Bool.false_eq_true]
   repeat (first | (with_reducible apply qzV; simp (disch:=omega) only [coreA,Int.reduceBEq,bzVf,c0,c1,c2,str0,s0] <;> with_reducible rfl) | (with_reducible first | apply qzT | apply qzF | apply qzG | apply qzH) | ((with_reducible first | apply qzB | apply qzC | apply qzD); simp (disch:=omega) only [coreA,Int.reduceBEq,bzVf,c0,c1,c2,str0,s0] <;> with_reducible rfl))
   exact ⟨_,rfl,rfl,S1.grow⟩
 rw [if_neg k2]
 by_cases k3 : c.k = 3
 ·rw [if_pos k3]
  by_cases i0 : c.i = 0 <;> by_cases s0 : c.s.size ≤ 256 <;> simp only [i0,s0,decide_true,decide_false,Bool.and_true,Bool.true_and,Bool.and_false,Bool.false_and,if_true,if_false,Bool.false_eq_true]
  all_goals
   repeat (first | (with_reducible apply qzV; simp (disch:=omega) only [coreA,Int.reduceBEq,bzVf,c0,c1,c2,hs] <;> with_reducible rfl) | (with_reducible first | apply qzT | apply qzF | apply qzG | apply qzH) | ((with_reducible first | apply qzB | apply qzC | apply qzD); simp (disch:=omega) only [coreA,Int.reduceBEq,bzVf,c0,c1,c2,hs] <;> with_reducible rfl))
   exact ⟨_,rfl,rfl,S1.grow⟩
 rw [if_neg k3]
 simp only [if_false,Bool.false_eq_true]
 repeat (first | (with_reducible apply qzV; simp (disch:=omega) only [coreA,Int.reduceBEq,bzVf,c0,c1,c2] <;> with_reducible rfl) | (with_reducible first | apply qzT | apply qzF | apply qzG | apply qzH) | ((with_reducible first | apply qzB | apply qzC | apply qzD); simp (disch:=omega) only [coreA,Int.reduceBEq,bzVf,c0,c1,c2] <;> with_reducible rfl))
 exact ⟨_,rfl,rfl,S1.grow⟩
end Go.Proofs.Ytgklcfnjahomjaa.Sh
