/- What lies ahead of the law, put together. -/
import Derived.Test.YtghelamfaaakcaaGreatSzM7
import Derived.Test.YtghelamfaaakcaaGreatSzM1
import Derived.OpenShut
/- The document's zones: 'Cell', 'Check' of zones that may be, 'Of'. -/
set_option linter.unusedVariables false
set_option linter.unusedSimpArgs false
set_option maxRecDepth 100000
namespace Go.Proofs.YtghelamfaaakcaaGreat.Sh
open Go Go.RowKit Go.Proofs.Ev Go.Lib
theorem bzZg : type_of% (And.intro @ld3 (And.intro @ld2 (And.intro @ld9 (And.intro @ld31 (And.intro @ld38 (And.intro @fa31_0 (And.intro @fa31_1 (And.intro @fa31_2 (And.intro @fa38_0 (And.intro @fa38_1 (And.intro @fa38_2 (And.intro @fa38_3 (And.intro @aggC (And.intro @aggZ (@Nat.add_zero))))))))))))))):=And.intro @ld3 (And.intro @ld2 (And.intro @ld9 (And.intro @ld31 (And.intro @ld38 (And.intro @fa31_0 (And.intro @fa31_1 (And.intro @fa31_2 (And.intro @fa38_0 (And.intro @fa38_1 (And.intro @fa38_2 (And.intro @fa38_3 (And.intro @aggC (And.intro @aggZ (@Nat.add_zero))))))))))))))
theorem and1_01' (i : Int) : and1 i = 0 ∨ and1 i = 1:=by
 unfold and1
 have h : (BitVec.ofInt 64 i &&& BitVec.ofInt 64 1).toNat ≤ 1:=by
  rw [BitVec.toNat_and]
  have : (BitVec.ofInt 64 1).toNat = 1:=by decide
  rw [this,Nat.and_one_is_mod]
  omega
 generalize (BitVec.ofInt 64 i &&& BitVec.ofInt 64 1).toNat = n at h
 have : n = 0 ∨ n = 1:=by omega
 rcases this with rfl | rfl
 ·exact .inl (by decide)
 ·exact .inr (by decide)
def ok9 (c : CellD) : Prop:=if c.k = 0 then c.i = 0 ∧ c.s.size = 0 else if c.k = 1 then c.s.size = 0 else if c.k = 2 then (c.i = 0 ∨ c.i = 1) ∧ c.s.size = 0 else if c.k = 3 then c.i = 0 else False
theorem cell_iff {a b : CellD} : a = b ↔ a.k = b.k ∧ a.i = b.i ∧ a.s = b.s:=by
 constructor
 ·rintro rfl; exact ⟨rfl,rfl,rfl⟩
 ·rintro ⟨h1,h2,h3⟩; exact CellD.ext' h1 h2 (by unfold CellD.bytes; rw [h3])
theorem cellE_ok {c : CellD} (h : ¬ c.s.size > 65536) : (ok9 c→cellE c = 0) ∧ (¬ ok9 c→cellE c = 2):=by
 have hs : (.empty : ByteArray) = c.s ↔ c.s.size = 0:=by rw [eq_comm]; exact size0
 have key : (if c.k = 0 ∨ c.k = 1 ∨ c.k = 2 ∨ c.k = 3 then (if bare c = c then (0 : Int) else 2) else 2) = cellE c:=by unfold cellE; rw [if_neg h]
 rw [← key]
 unfold ok9 bare
 by_cases p0 : c.k = 0
 ·have e : c0 = c ↔ c.i = 0 ∧ c.s.size = 0:=by
   rw [cell_iff]
   simp only [c0]
   rw [hs]
   constructor
   ·rintro ⟨_,h2,h3⟩; exact ⟨h2.symm,h3⟩
   ·rintro ⟨h2,h3⟩; exact ⟨p0.symm,h2.symm,h3⟩
  simp only [if_pos (show c.k = 0 ∨ c.k = 1 ∨ c.k = 2 ∨ c.k = 3 from .inl p0),if_pos p0]
  exact ⟨fun q=>if_pos (e.2 q),fun q=>if_neg fun z=>q (e.1 z)⟩
 by_cases p1 : c.k = 1
 ·have e : (⟨c.k,c.i,.empty⟩ : CellD) = c ↔ c.s.size = 0:=by
   rw [cell_iff,← hs]
   simp
  simp only [if_pos (show c.k = 0 ∨ c.k = 1 ∨ c.k = 2 ∨ c.k = 3 from .inr (.inl p1)),if_neg p0,if_pos p1]
  exact ⟨fun q=>if_pos (e.2 q),fun q=>if_neg fun z=>q (e.1 z)⟩
 by_cases p2 : c.k = 2
 ·have e : (⟨c.k,and1 c.i,.empty⟩ : CellD) = c ↔ (c.i = 0 ∨ c.i = 1) ∧ c.s.size = 0:=by
   rw [cell_iff,← hs]
   simp only [true_and]
   refine and_congr_left fun _=>⟨fun q=>?_,fun q=>?_⟩
   ·have:=and1_01' c.i
    rw [q] at this
    exact this
   ·rcases q with q | q <;> rw [q] <;> decide
  simp only [if_pos (show c.k = 0 ∨ c.k = 1 ∨ c.k = 2 ∨ c.k = 3 from .inr (.inr (.inl p2))),if_neg p0,if_neg p1,if_pos p2]
  exact ⟨fun q=>if_pos (e.2 q),fun q=>if_neg fun z=>q (e.1 z)⟩
 by_cases p3 : c.k = 3
 ·have e : (⟨c.k,0,c.s⟩ : CellD) = c ↔ c.i = 0:=by
   rw [cell_iff]
   simp only [true_and,and_true]
   exact eq_comm
  simp only [if_pos (show c.k = 0 ∨ c.k = 1 ∨ c.k = 2 ∨ c.k = 3 from .inr (.inr (.inr p3))),if_neg p0,if_neg p1,if_neg p2,if_pos p3]
  exact ⟨fun q=>if_pos (e.2 q),fun q=>if_neg fun z=>q (e.1 z)⟩
 ·simp only [if_neg (show ¬ (c.k = 0 ∨ c.k = 1 ∨ c.k = 2 ∨ c.k = 3) from fun q=>q.elim p0 fun q=>q.elim p1 fun q=>q.elim p2 p3),if_neg p0,if_neg p1,if_neg p2,if_neg p3]
  exact ⟨fun q=>q.elim,fun _=>trivial⟩
theorem f37c {k : Nat} (c : CellD) (h : AH) : Tl (eInv env (k + 1) (.func 37) #[] #[c.v] h) fun r=>r.1 = .int .i64 (cellE c) ∧ Grow h r.2:=by
 rw [F37_call]
 unfold F37
 refine Tl.box' (Stt.init h) rfl isC fun b1 h1 S1 _=>?_
 have S1 : Stt Tryz.prog h.n h h1 [Cr b1 c] []:=S1
 obtain ⟨_,kc,ic,sc⟩:=c_at S1 0 rfl
 have hs : ∀ h' : AH,pLen Tryz.prog #[9] (.string c.s) h' = some (.int .i64 c.s.size):=fun h'=>len_string u9
 by_cases e0 : c.s.size > 65536
 ·have e : cellE c = 3:=by unfold cellE; rw [if_pos e0]
  rw [e]
  repeat (first | (with_reducible apply qzV; simp (disch:=omega) only [coreA,Int.reduceBEq,bzZg,sc,hs] <;> with_reducible rfl) | (with_reducible first | apply qzT | apply qzF | apply qzG | apply qzH) | ((with_reducible first | apply qzB | apply qzC | apply qzD); simp (disch:=omega) only [coreA,Int.reduceBEq,bzZg,sc,hs] <;> with_reducible rfl))
  exact ⟨_,rfl,rfl,S1.grow⟩
 obtain ⟨yes,no⟩:=cellE_ok e0
 repeat (first | (with_reducible apply qzV; simp (disch:=omega) only [coreA,Int.reduceBEq,bzZg,sc,hs,kc] <;> with_reducible rfl) | (with_reducible first | apply qzT | apply qzF | apply qzG | apply qzH) | ((with_reducible first | apply qzB | apply qzC | apply qzD); simp (disch:=omega) only [coreA,Int.reduceBEq,bzZg,sc,hs,kc] <;> with_reducible rfl))
 unfold F37_rlrrr
 by_cases p0 : c.k = 0
 ·have o : ok9 c ↔ c.i = 0 ∧ c.s.size = 0:=by unfold ok9; rw [if_pos p0]
  by_cases q1 : c.i = 0
  ·by_cases q2 : c.s.size = 0
   ·have s0:=decide_eq_true q2
    rw [yes (o.2 ⟨q1,q2⟩)]
    repeat (first | (with_reducible apply qzV; simp (disch:=omega) only [coreA,Int.reduceBEq,bzZg,ic,sc,str0,s0] <;> with_reducible rfl) | (with_reducible first | apply qzT | apply qzF | apply qzG | apply qzH) | ((with_reducible first | apply qzB | apply qzC | apply qzD); simp (disch:=omega) only [coreA,Int.reduceBEq,bzZg,ic,sc,str0,s0] <;> with_reducible rfl))
    exact ⟨_,rfl,rfl,S1.grow⟩
   ·have s0:=decide_eq_false q2
    rw [no fun z=>q2 (o.1 z).2]
    repeat (first | (with_reducible apply qzV; simp (disch:=omega) only [coreA,Int.reduceBEq,bzZg,ic,sc,str0,s0] <;> with_reducible rfl) | (with_reducible first | apply qzT | apply qzF | apply qzG | apply qzH) | ((with_reducible first | apply qzB | apply qzC | apply qzD); simp (disch:=omega) only [coreA,Int.reduceBEq,bzZg,ic,sc,str0,s0] <;> with_reducible rfl))
    exact ⟨_,rfl,rfl,S1.grow⟩
  ·rw [no fun z=>q1 (o.1 z).1]
   have i0 : (c.i == 0) = false:=beq_f q1
   repeat (first | (with_reducible apply qzV; simp (disch:=omega) only [coreA,Int.reduceBEq,bzZg,ic,sc,i0] <;> with_reducible rfl) | (with_reducible first | apply qzT | apply qzF | apply qzG | apply qzH) | ((with_reducible first | apply qzB | apply qzC | apply qzD); simp (disch:=omega) only [coreA,Int.reduceBEq,bzZg,ic,sc,i0] <;> with_reducible rfl))
   exact ⟨_,rfl,rfl,S1.grow⟩
 by_cases p1 : c.k = 1
 ·have o : ok9 c ↔ c.s.size = 0:=by unfold ok9; rw [if_neg p0,if_pos p1]
  by_cases q2 : c.s.size = 0
  ·have s0:=decide_eq_true q2
   rw [yes (o.2 q2)]
   repeat (first | (with_reducible apply qzV; simp (disch:=omega) only [coreA,Int.reduceBEq,bzZg,ic,sc,str0,s0] <;> with_reducible rfl) | (with_reducible first | apply qzT | apply qzF | apply qzG | apply qzH) | ((with_reducible first | apply qzB | apply qzC | apply qzD); simp (disch:=omega) only [coreA,Int.reduceBEq,bzZg,ic,sc,str0,s0] <;> with_reducible rfl))
   exact ⟨_,rfl,rfl,S1.grow⟩
  ·have s0:=decide_eq_false q2
   rw [no fun z=>q2 (o.1 z)]
   repeat (first | (with_reducible apply qzV; simp (disch:=omega) only [coreA,Int.reduceBEq,bzZg,ic,sc,str0,s0] <;> with_reducible rfl) | (with_reducible first | apply qzT | apply qzF | apply qzG | apply qzH) | ((with_reducible first | apply qzB | apply qzC | apply qzD); simp (disch:=omega) only [coreA,Int.reduceBEq,bzZg,ic,sc,str0,s0] <;> with_reducible rfl))
   exact ⟨_,rfl,rfl,S1.grow⟩
 by_cases p2 : c.k = 2
 ·have o : ok9 c ↔ (c.i = 0 ∨ c.i = 1) ∧ c.s.size = 0:=by unfold ok9; rw [if_neg p0,if_neg p1,if_pos p2]
  by_cases q1 : c.i = 0
  ·have i0 : (c.i == 0) = true:=beq_t q1
   by_cases q2 : c.s.size = 0
   ·have s0:=decide_eq_true q2
    rw [yes (o.2 ⟨.inl q1,q2⟩)]
    repeat (first | (with_reducible apply qzV; simp (disch:=omega) only [coreA,Int.reduceBEq,bzZg,ic,sc,str0,s0,i0] <;> with_reducible rfl) | (with_reducible first | apply qzT | apply qzF | apply qzG | apply qzH) | ((with_reducible first | apply qzB | apply qzC | apply qzD); simp (disch:=omega) only [coreA,Int.reduceBEq,bzZg,ic,sc,str0,s0,i0] <;> with_reducible rfl))
    exact ⟨_,rfl,rfl,S1.grow⟩
   ·have s0:=decide_eq_false q2
    rw [no fun z=>q2 (o.1 z).2]
    repeat (first | (with_reducible apply qzV; simp (disch:=omega) only [coreA,Int.reduceBEq,bzZg,ic,sc,str0,s0,i0] <;> with_reducible rfl) | (with_reducible first | apply qzT | apply qzF | apply qzG | apply qzH) | ((with_reducible first | apply qzB | apply qzC | apply qzD); simp (disch:=omega) only [coreA,Int.reduceBEq,bzZg,ic,sc,str0,s0,i0] <;> with_reducible rfl))
    exact ⟨_,rfl,rfl,S1.grow⟩
  ·have i0 : (c.i == 0) = false:=beq_f q1
   by_cases q3 : c.i = 1
   ·have i1 : (c.i == 1) = true:=beq_t q3
    by_cases q2 : c.s.size = 0
    ·have s0:=decide_eq_true q2
     rw [yes (o.2 ⟨.inr q3,q2⟩)]
     repeat (first | (with_reducible apply qzV; simp (disch:=omega) only [coreA,Int.reduceBEq,bzZg,ic,sc,str0,s0,i0,i1] <;> with_reducible rfl) | (with_reducible first | apply qzT | apply qzF | apply qzG | apply qzH) | ((with_reducible first | apply qzB | apply qzC | apply qzD); simp (disch:=omega) only [coreA,Int.reduceBEq,bzZg,ic,sc,str0,s0,i0,i1] <;> with_reducible rfl))
     exact ⟨_,rfl,rfl,S1.grow⟩
    ·have s0:=decide_eq_false q2
     rw [no fun z=>q2 (o.1 z).2]
     repeat (first | (with_reducible apply qzV; simp (disch:=omega) only [coreA,Int.reduceBEq,bzZg,ic,sc,str0,s0,i0,i1] <;> with_reducible rfl) | (with_reducible first | apply qzT | apply qzF | apply qzG | apply qzH) | ((with_reducible first | apply qzB | apply qzC | apply qzD); simp (disch:=omega) only [coreA,Int.reduceBEq,bzZg,ic,sc,str0,s0,i0,i1] <;> with_reducible rfl))
     exact ⟨_,rfl,rfl,S1.grow⟩
   ·have i1 : (c.i == 1) = false:=beq_f q3
    rw [no fun z=>(o.1 z).1.elim q1 q3]
    repeat (first | (with_reducible apply qzV; simp (disch:=omega) only [coreA,Int.reduceBEq,bzZg,ic,sc,i0,i1] <;> with_reducible rfl) | (with_reducible first | apply qzT | apply qzF | apply qzG | apply qzH) | ((with_reducible first | apply qzB | apply qzC | apply qzD); simp (disch:=omega) only [coreA,Int.reduceBEq,bzZg,ic,sc,i0,i1] <;> with_reducible rfl))
    exact ⟨_,rfl,rfl,S1.grow⟩
 by_cases p3 : c.k = 3
 ·have o : ok9 c ↔ c.i = 0:=by unfold ok9; rw [if_neg p0,if_neg p1,if_neg p2,if_pos p3]
  by_cases q1 : c.i = 0
  ·have i0 : (c.i == 0) = true:=beq_t q1
   rw [yes (o.2 q1)]
   repeat (first | (with_reducible apply qzV; simp (disch:=omega) only [coreA,Int.reduceBEq,bzZg,ic,i0] <;> with_reducible rfl) | (with_reducible first | apply qzT | apply qzF | apply qzG | apply qzH) | ((with_reducible first | apply qzB | apply qzC | apply qzD); simp (disch:=omega) only [coreA,Int.reduceBEq,bzZg,ic,i0] <;> with_reducible rfl))
   exact ⟨_,rfl,rfl,S1.grow⟩
  ·have i0 : (c.i == 0) = false:=beq_f q1
   rw [no fun z=>q1 (o.1 z)]
   repeat (first | (with_reducible apply qzV; simp (disch:=omega) only [coreA,Int.reduceBEq,bzZg,ic,i0] <;> with_reducible rfl) | (with_reducible first | apply qzT | apply qzF | apply qzG | apply qzH) | ((with_reducible first | apply qzB | apply qzC | apply qzD); simp (disch:=omega) only [coreA,Int.reduceBEq,bzZg,ic,i0] <;> with_reducible rfl))
   exact ⟨_,rfl,rfl,S1.grow⟩
 have o : ¬ ok9 c:=by unfold ok9; rw [if_neg p0,if_neg p1,if_neg p2,if_neg p3]; exact id
 rw [no o]
 repeat (first | (with_reducible apply qzV; simp (disch:=omega) only [coreA,Int.reduceBEq,bzZg] <;> with_reducible rfl) | (with_reducible first | apply qzT | apply qzF | apply qzG | apply qzH) | ((with_reducible first | apply qzB | apply qzC | apply qzD); simp (disch:=omega) only [coreA,Int.reduceBEq,bzZg] <;> with_reducible rfl))
 exact ⟨_,rfl,rfl,S1.grow⟩
/-- 'Check', where nothing is amiss. -/
theorem f16c {k : Nat} (z : ZoneD) (kind : Int) (h : AH) (h1 : 1 ≤ kind) (h3 : kind ≤ 3) (p0 : 0 ≤ z.nul) (hz : z.nul = z.cnt ∧ z.mn = c0 ∧ z.mx = c0 ∨ z.nul < z.cnt ∧ zoneE z kind = 0) :
  Tl (eInv env (k + 13) (.func 16) #[] #[zv z,.int .i64 kind] h) fun r=>r.1 = .int .i64 0 ∧ Grow h r.2:=by
 rw [F16_call]
 unfold F16
 refine Tl.box' (Stt.init h) rfl isZ fun b2 h1 S1 _=>?_
 have S1 : Stt Tryz.prog h.n h h1 [Zr b2 z] []:=S1
 obtain ⟨_,z2,z3,z4,z5,z6,z7⟩:=z_at S1 0 rfl
 rcases hz with ⟨e1,e2,e3⟩ | ⟨e1,e2⟩
 ·have n4 : ∀ x y,pBin Tryz.prog .neq 31 x y z.mn.v c0.v = some (.bool false):=fun x y=>by rw [e2,neqC]; simp
  have n5 : ∀ x y,pBin Tryz.prog .neq 31 x y z.mx.v c0.v = some (.bool false):=fun x y=>by rw [e3,neqC]; simp
  repeat (first | (with_reducible apply qzV; simp (disch:=omega) only [coreA,Int.reduceBEq,bzZg,z2,z3,z4,z5,bdCe,n4,n5] <;> with_reducible rfl) | (with_reducible first | apply qzT | apply qzF | apply qzG | apply qzH) | ((with_reducible first | apply qzB | apply qzC | apply qzD); simp (disch:=omega) only [coreA,Int.reduceBEq,bzZg,z2,z3,z4,z5,bdCe,n4,n5] <;> with_reducible rfl))
  exact ⟨_,rfl,rfl,S1.grow⟩
 ·obtain ⟨r5,r6,r7,r8,r9⟩:=zoneE_zero.1 e2
  repeat (first | (with_reducible apply qzV; simp (disch:=omega) only [coreA,Int.reduceBEq,bzZg,z2,z3,z4,z5,z6,z7] <;> with_reducible rfl) | (with_reducible first | apply qzT | apply qzF | apply qzG | apply qzH) | ((with_reducible first | apply qzB | apply qzC | apply qzD); simp (disch:=omega) only [coreA,Int.reduceBEq,bzZg,z2,z3,z4,z5,z6,z7] <;> with_reducible rfl))
  with_reducible refine Tl.call' S1 (f37c (k:=k + 11) z.mn h1) fun h2 S2 _=>?_
  obtain ⟨_,_,_,y4,y5,_⟩:=z_at S2 0 rfl
  repeat (first | (with_reducible apply qzV; simp (disch:=omega) only [coreA,Int.reduceBEq,bzZg,y4,y5] <;> with_reducible rfl) | (with_reducible first | apply qzT | apply qzF | apply qzG | apply qzH) | ((with_reducible first | apply qzB | apply qzC | apply qzD); simp (disch:=omega) only [coreA,Int.reduceBEq,bzZg,y4,y5] <;> with_reducible rfl))
  with_reducible refine Tl.call' S2 (f37c (k:=k + 11) z.mx h2) fun h3 S3 _=>?_
  obtain ⟨_,_,_,x4,x5,_⟩:=z_at S3 0 rfl
  repeat (first | (with_reducible apply qzV; simp (disch:=omega) only [coreA,Int.reduceBEq,bzZg,x4,x5] <;> with_reducible rfl) | (with_reducible first | apply qzT | apply qzF | apply qzG | apply qzH) | ((with_reducible first | apply qzB | apply qzC | apply qzD); simp (disch:=omega) only [coreA,Int.reduceBEq,bzZg,x4,x5] <;> with_reducible rfl))
  with_reducible refine Tl.call' S3 (f38c (k:=k + 11) z.mn z.mx h3) fun h4 S4 _=>?_
  repeat (first | (with_reducible apply qzV; simp (disch:=omega) only [coreA,Int.reduceBEq,bzZg] <;> with_reducible rfl) | (with_reducible first | apply qzT | apply qzF | apply qzG | apply qzH) | ((with_reducible first | apply qzB | apply qzC | apply qzD); simp (disch:=omega) only [coreA,Int.reduceBEq,bzZg] <;> with_reducible rfl))
  exact ⟨_,rfl,rfl,S4.grow⟩
/-! ### 'Of' -/
theorem mnL_snoc {V : List CellD} {c : CellD} : mnL (V ++ [c]) = if V = [] then c else mn2 (mnL V) c:=by
 cases V with
 | nil=>rfl
 | cons a V =>
  rw [if_neg (by simp)]
  simp [mnL,List.foldl_append]
theorem mxL_snoc {V : List CellD} {c : CellD} : mxL (V ++ [c]) = if V = [] then c else mx2 (mxL V) c:=by
 cases V with
 | nil=>rfl
 | cons a V =>
  rw [if_neg (by simp)]
  simp [mxL,List.foldl_append]
/-- What 'Of' has gone through. -/
def ofQ (n i : Nat) (V : List CellD) : ZoneD:=⟨n,(i : Int) - V.length,mnL V,mxL V⟩
theorem vals_next {l : List CellD} {i : Nat} {c : CellD} (hc : l[i]? = some c) : vals (l.take (i + 1)) = if c.k = 0 then vals (l.take i) else vals (l.take i) ++ [c]:=by
 have hti : l.take (i + 1) = l.take i ++ [c]:=by rw [List.take_add_one,hc]; rfl
 rw [hti]
 unfold vals
 rw [List.filter_append]
 by_cases h : c.k = 0 <;> simp [h]
theorem f17_loop {β : Type} {k : Nat} {Q : β→Prop} {h0 : AH} {b2 b3 : Nat} {v : Value} {l : List CellD} (S : Cells h0 v l) (hl : l.length ≤ 2 ^ 30) {ke0 : Value→Value→Value→Value→Value→Value→AH→Option β} (n : Nat) :
  ∀ {i j : Nat} {h : AH},i + n = l.length→n < j→Stt Tryz.prog h0.n h0 h [Zr b3 (ofQ l.length i (vals (l.take i))),Zr b2 z0] [] →
   (∀ h' y4 y5 y12,Stt Tryz.prog h0.n h0 h' [Zr b3 (ofQ l.length l.length (vals l)),Zr b2 z0] []→Tl (ke0 v (ptr b2) (ptr b3) y4 y5 y12 h') Q) →
   Tl (F17_lrlrrr (eInv env (k + 1)) (k + 1) j v (ptr b2) (ptr b3) (.bool (decide (vals (l.take i) = []))) (.int .i64 i) h ke0) Q:=by
 have hv : ∀ h' : AH,pLen Tryz.prog #[22] v h' = some (.int .i64 l.length):=fun h'=>S.len
 induction n with
 | zero =>
  intro i j h hi hj T hk
  obtain ⟨j,rfl⟩ : ∃ q,j = q + 1:=⟨j - 1,by omega⟩
  simp only [F17_lrlrrr]
  repeat (first | (with_reducible apply qzV; simp (disch:=omega) only [coreA,Int.reduceBEq,bzZg,hv] <;> with_reducible rfl) | (with_reducible first | apply qzT | apply qzF | apply qzG | apply qzH) | ((with_reducible first | apply qzB | apply qzC | apply qzD); simp (disch:=omega) only [coreA,Int.reduceBEq,bzZg,hv] <;> with_reducible rfl))
  rw [List.take_of_length_le (by omega),show i = l.length by omega] at T
  exact hk _ _ _ _ T
 | succ n ih =>
  intro i j h hi hj T hk
  obtain ⟨j,rfl⟩ : ∃ q,j = q + 1:=⟨j - 1,by omega⟩
  obtain ⟨c,hc⟩ : ∃ c,l[i]? = some c:=⟨_,List.getElem?_eq_getElem (by omega)⟩
  obtain ⟨b,o,hx,hr⟩:=(S.grow T.grow).at_ hc
  have k4 : h.cell b o = some (.int .i64 c.k):=Ev.cell_of_row (j:=0) hr (by omega)
  have e : (i : Int) + 1 = ((i + 1 : Nat) : Int):=by omega
  have hvs:=vals_next hc
  have hvl : (vals (l.take i)).length ≤ i:=by have:=vals_le (l.take i); rw [List.length_take] at this; omega
  simp only [F17_lrlrrr]
  unfold F17_lrllrlrrr ptr
  obtain ⟨_,_,nz,mn,mx,_,_⟩:=z_at T 0 rfl
  by_cases p : c.k = 0
  ·rw [if_pos p] at hvs
   have hn : (ofQ l.length i (vals (l.take i))).nul = (i : Int) - (vals (l.take i)).length:=rfl
   repeat (first | (with_reducible apply qzV; simp (disch:=omega) only [coreA,Int.reduceBEq,bzZg,hv,hx,k4,nz,hn] <;> with_reducible rfl) | (with_reducible first | apply qzT | apply qzF | apply qzG | apply qzH) | ((with_reducible first | apply qzB | apply qzC | apply qzD); simp (disch:=omega) only [coreA,Int.reduceBEq,bzZg,hv,hx,k4,nz,hn] <;> with_reducible rfl))
   refine Tl.store' T 0 rfl sz3 rfl rfl (of_decide_eq_true rfl) fun h2 T2 _=>?_
   repeat (first | (with_reducible apply qzV; simp (disch:=omega) only [coreA,Int.reduceBEq,bzZg] <;> with_reducible rfl) | (with_reducible first | apply qzT | apply qzF | apply qzG | apply qzH) | ((with_reducible first | apply qzB | apply qzC | apply qzD); simp (disch:=omega) only [coreA,Int.reduceBEq,bzZg] <;> with_reducible rfl))
   rw [e]
   have go:=ih (i:=i + 1) (j:=j) (h:=h2) (by omega) (by omega)
   rw [hvs] at go
   refine go ?_ hk
   have ez : ofQ l.length (i + 1) (vals (l.take i)) = ⟨l.length,(i : Int) - (vals (l.take i)).length + 1,mnL (vals (l.take i)),mxL (vals (l.take i))⟩:=by unfold ofQ; congr 1; omega
   rw [ez]
   exact T2
  ·rw [if_neg p] at hvs
   have go:=fun h' T'=>ih (i:=i + 1) (j:=j) (h:=h') (by omega) (by omega) T' hk
   rw [hvs] at go
   have ev : decide (vals (l.take i) ++ [c] = []) = false:=by simp
   rw [ev] at go
   have ez : ∀ m x,mnL (vals (l.take i) ++ [c]) = m→mxL (vals (l.take i) ++ [c]) = x→ofQ l.length (i + 1) (vals (l.take i) ++ [c]) = ⟨l.length,(i : Int) - (vals (l.take i)).length,m,x⟩:=fun m x e1 e2=>by
    unfold ofQ
    rw [e1,e2,List.length_append,List.length_singleton]
    congr 1
    omega
   by_cases q : vals (l.take i) = []
   ·have fd:=decide_eq_true q
    rw [mnL_snoc,if_pos q] at ez
    rw [mxL_snoc,if_pos q] at ez
    rw [fd]
    repeat (first | (with_reducible apply qzV; simp (disch:=omega) only [coreA,Int.reduceBEq,bzZg,hv,hx,k4] <;> with_reducible rfl) | (with_reducible first | apply qzT | apply qzF | apply qzG | apply qzH) | ((with_reducible first | apply qzB | apply qzC | apply qzD); simp (disch:=omega) only [coreA,Int.reduceBEq,bzZg,hv,hx,k4] <;> with_reducible rfl))
    unfold F17_rlrllrllrlrrr
    repeat (first | (with_reducible apply qzV; simp (disch:=omega) only [coreA,Int.reduceBEq,bzZg,hx,hr] <;> with_reducible rfl) | (with_reducible first | apply qzT | apply qzF | apply qzG | apply qzH) | ((with_reducible first | apply qzB | apply qzC | apply qzD); simp (disch:=omega) only [coreA,Int.reduceBEq,bzZg,hx,hr] <;> with_reducible rfl))
    refine Tl.store' T 0 rfl sz31 rfl rfl (of_decide_eq_true rfl) fun h2 T2 _=>?_
    have hr2 : h2.row b o 3 = some (crow c):=by
     obtain ⟨b',o',hx',hr'⟩:=(S.grow T2.grow).at_ hc
     have:=hx.symm.trans hx'
     simp only [Option.some.injEq,Value.pointer.injEq,Addr.mk.injEq] at this
     obtain ⟨e1,e2,_⟩:=this
     subst e1; subst e2
     exact hr'
    repeat (first | (with_reducible apply qzV; simp (disch:=omega) only [coreA,Int.reduceBEq,bzZg] <;> with_reducible rfl) | (with_reducible first | apply qzT | apply qzF | apply qzG | apply qzH) | ((with_reducible first | apply qzB | apply qzC | apply qzD); simp (disch:=omega) only [coreA,Int.reduceBEq,bzZg] <;> with_reducible rfl))
    unfold F17_rlrrllrllrlrrr
    repeat (first | (with_reducible apply qzV; simp (disch:=omega) only [coreA,Int.reduceBEq,bzZg,hx,hr2] <;> with_reducible rfl) | (with_reducible first | apply qzT | apply qzF | apply qzG | apply qzH) | ((with_reducible first | apply qzB | apply qzC | apply qzD); simp (disch:=omega) only [coreA,Int.reduceBEq,bzZg,hx,hr2] <;> with_reducible rfl))
    refine Tl.store' T2 0 rfl sz31 rfl rfl (of_decide_eq_true rfl) fun h3 T3 _=>?_
    repeat (first | (with_reducible apply qzV; simp (disch:=omega) only [coreA,Int.reduceBEq,bzZg] <;> with_reducible rfl) | (with_reducible first | apply qzT | apply qzF | apply qzG | apply qzH) | ((with_reducible first | apply qzB | apply qzC | apply qzD); simp (disch:=omega) only [coreA,Int.reduceBEq,bzZg] <;> with_reducible rfl))
    rw [e]
    refine go h3 ?_
    rw [ez c c rfl rfl]
    exact T3
   ·have fd:=decide_eq_false q
    rw [mnL_snoc,if_neg q] at ez
    rw [mxL_snoc,if_neg q] at ez
    have hmn : (ofQ l.length i (vals (l.take i))).mn = mnL (vals (l.take i)):=rfl
    have hmx : (ofQ l.length i (vals (l.take i))).mx = mxL (vals (l.take i)):=rfl
    rw [hmn] at mn
    rw [fd]
    repeat (first | (with_reducible apply qzV; simp (disch:=omega) only [coreA,Int.reduceBEq,bzZg,hv,hx,k4,hr,mn] <;> with_reducible rfl) | (with_reducible first | apply qzT | apply qzF | apply qzG | apply qzH) | ((with_reducible first | apply qzB | apply qzC | apply qzD); simp (disch:=omega) only [coreA,Int.reduceBEq,bzZg,hv,hx,k4,hr,mn] <;> with_reducible rfl))
    with_reducible refine Tl.call' T (f38c (k:=k) c (mnL (vals (l.take i))) h) fun h2 T2 g2=>?_
    have row : ∀ {h'},Stt Tryz.prog h0.n h0 h' [] []→h'.row b o 3 = some (crow c):=fun {h'} U=>by
     obtain ⟨b',o',hx',hr'⟩:=(S.grow U.grow).at_ hc
     have:=hx.symm.trans hx'
     simp only [Option.some.injEq,Value.pointer.injEq,Addr.mk.injEq] at this
     obtain ⟨e1,e2,_⟩:=this
     subst e1; subst e2
     exact hr'
    have hr2:=row T2.drop.drop
    have step2 : ∀ {h3 : AH} {m : CellD} {y : Value},mn2 (mnL (vals (l.take i))) c = m→Stt Tryz.prog h0.n h0 h3 [Zr b3 ⟨l.length,(i : Int) - (vals (l.take i)).length,m,mxL (vals (l.take i))⟩,Zr b2 z0] [] →
      Tl (G17_10 (eInv env (k + 1)) v (.pointer (some ⟨b2,0,none⟩)) (.pointer (some ⟨b3,0,none⟩)) (.bool false) (.int .i64 i) h3 fun y51 h_3 =>
       F17_rlrrllrllrlrrr (eInv env (k + 1)) (k + 1) v (.pointer (some ⟨b2,0,none⟩)) (.pointer (some ⟨b3,0,none⟩)) (.int .i64 i) y51 h_3
       fun y0_4 y2_5 y3_6 y5_7 y51_8 h_9=>Ev.bnd (pBin Tryz.prog .add 3 (.tmp 13) (.const (.int .i64 1)) y5_7 (.int .i64 1)) fun x14=>F17_lrlrrr (eInv env (k + 1)) (k + 1) j y0_4 y2_5 y3_6 (.bool false) x14 h_9 ke0) Q:=by
     intro h3 m y hm T3
     have hr3:=row T3.drop.drop
     obtain ⟨_,_,_,_,mx3,_,_⟩:=z_at T3 0 rfl
     repeat (first | (with_reducible apply qzV; simp (disch:=omega) only [coreA,Int.reduceBEq,bzZg,hx,hr3,mx3] <;> with_reducible rfl) | (with_reducible first | apply qzT | apply qzF | apply qzG | apply qzH) | ((with_reducible first | apply qzB | apply qzC | apply qzD); simp (disch:=omega) only [coreA,Int.reduceBEq,bzZg,hx,hr3,mx3] <;> with_reducible rfl))
     with_reducible refine Tl.call' T3 (f38c (k:=k) c (mxL (vals (l.take i))) h3) fun h4 T4 g4=>?_
     have hr4:=row T4.drop.drop
     by_cases q3 : c.cmp (mxL (vals (l.take i))) > 0
     ·repeat (first | (with_reducible apply qzV; simp (disch:=omega) only [coreA,Int.reduceBEq,bzZg] <;> with_reducible rfl) | (with_reducible first | apply qzT | apply qzF | apply qzG | apply qzH) | ((with_reducible first | apply qzB | apply qzC | apply qzD); simp (disch:=omega) only [coreA,Int.reduceBEq,bzZg] <;> with_reducible rfl))
      unfold F17_rlrrllrllrlrrr
      repeat (first | (with_reducible apply qzV; simp (disch:=omega) only [coreA,Int.reduceBEq,bzZg,hx,hr4] <;> with_reducible rfl) | (with_reducible first | apply qzT | apply qzF | apply qzG | apply qzH) | ((with_reducible first | apply qzB | apply qzC | apply qzD); simp (disch:=omega) only [coreA,Int.reduceBEq,bzZg,hx,hr4] <;> with_reducible rfl))
      refine Tl.store' T4 0 rfl sz31 rfl rfl (of_decide_eq_true rfl) fun h5 T5 _=>?_
      repeat (first | (with_reducible apply qzV; simp (disch:=omega) only [coreA,Int.reduceBEq,bzZg] <;> with_reducible rfl) | (with_reducible first | apply qzT | apply qzF | apply qzG | apply qzH) | ((with_reducible first | apply qzB | apply qzC | apply qzD); simp (disch:=omega) only [coreA,Int.reduceBEq,bzZg] <;> with_reducible rfl))
      rw [e]
      refine go h5 ?_
      rw [ez m c hm (by unfold mx2; rw [if_pos q3])]
      exact T5
     ·repeat (first | (with_reducible apply qzV; simp (disch:=omega) only [coreA,Int.reduceBEq,bzZg] <;> with_reducible rfl) | (with_reducible first | apply qzT | apply qzF | apply qzG | apply qzH) | ((with_reducible first | apply qzB | apply qzC | apply qzD); simp (disch:=omega) only [coreA,Int.reduceBEq,bzZg] <;> with_reducible rfl))
      unfold F17_rlrrllrllrlrrr
      repeat (first | (with_reducible apply qzV; simp (disch:=omega) only [coreA,Int.reduceBEq,bzZg] <;> with_reducible rfl) | (with_reducible first | apply qzT | apply qzF | apply qzG | apply qzH) | ((with_reducible first | apply qzB | apply qzC | apply qzD); simp (disch:=omega) only [coreA,Int.reduceBEq,bzZg] <;> with_reducible rfl))
      rw [e]
      refine go h4 ?_
      rw [ez m _ hm (by unfold mx2; rw [if_neg q3])]
      exact T4
    by_cases q2 : c.cmp (mnL (vals (l.take i))) < 0
    ·repeat (first | (with_reducible apply qzV; simp (disch:=omega) only [coreA,Int.reduceBEq,bzZg] <;> with_reducible rfl) | (with_reducible first | apply qzT | apply qzF | apply qzG | apply qzH) | ((with_reducible first | apply qzB | apply qzC | apply qzD); simp (disch:=omega) only [coreA,Int.reduceBEq,bzZg] <;> with_reducible rfl))
     unfold F17_rlrllrllrlrrr
     repeat (first | (with_reducible apply qzV; simp (disch:=omega) only [coreA,Int.reduceBEq,bzZg,hx,hr2] <;> with_reducible rfl) | (with_reducible first | apply qzT | apply qzF | apply qzG | apply qzH) | ((with_reducible first | apply qzB | apply qzC | apply qzD); simp (disch:=omega) only [coreA,Int.reduceBEq,bzZg,hx,hr2] <;> with_reducible rfl))
     refine Tl.store' T2 0 rfl sz31 rfl rfl (of_decide_eq_true rfl) fun h3 T3 _=>?_
     exact step2 (m:=c) (y:=unk) (by unfold mn2; rw [if_pos q2]) T3
    ·repeat (first | (with_reducible apply qzV; simp (disch:=omega) only [coreA,Int.reduceBEq,bzZg] <;> with_reducible rfl) | (with_reducible first | apply qzT | apply qzF | apply qzG | apply qzH) | ((with_reducible first | apply qzB | apply qzC | apply qzD); simp (disch:=omega) only [coreA,Int.reduceBEq,bzZg] <;> with_reducible rfl))
     unfold F17_rlrllrllrlrrr
     refine Tl.brF ?_
     exact step2 (y:=unk) (by unfold mn2; rw [if_neg q2]) T2
theorem f17c {k : Nat} {h : AH} {v : Value} {l : List CellD} (S : Cells h v l) (hl : l.length ≤ 2 ^ 30) (hk : l.length < k) : Tl (eInv env (k + 2) (.func 17) #[] #[v] h) fun r=>r.1 = zv (ofZ l) ∧ Grow h r.2:=by
 rw [F17_call]
 unfold F17
 have hv : ∀ h' : AH,pLen Tryz.prog #[22] v h' = some (.int .i64 l.length):=fun h'=>S.len
 have bz : ∀ n : Int,pBuild Tryz.prog 38 #[(0,.int .i64 n)] = some (zv ⟨n,0,c0,c0⟩):=fun n=>by kernel_rfl
 refine Tl.alloc' (Stt.init h) ze38 rfl fun b2 h1 S1 _=>?_
 repeat (first | (with_reducible apply qzV; simp (disch:=omega) only [coreA,Int.reduceBEq,bzZg,hv,bz] <;> with_reducible rfl) | (with_reducible first | apply qzT | apply qzF | apply qzG | apply qzH) | ((with_reducible first | apply qzB | apply qzC | apply qzD); simp (disch:=omega) only [coreA,Int.reduceBEq,bzZg,hv,bz] <;> with_reducible rfl))
 refine Tl.alloc' S1 ze38 rfl fun b3 h2 S2 _=>?_
 refine Tl.store' S2 0 rfl sz38 rfl rfl (of_decide_eq_true rfl) fun h3 S3 _=>?_
 have S3 : Stt Tryz.prog h.n h h3 [Zr b3 (ofQ l.length 0 (vals (l.take 0))),Zr b2 z0] []:=S3
 refine f17_loop (k:=k) (b2:=b2) (b3:=b3) S hl l.length (i:=0) (j:=k + 1) (h:=h3) (by omega) (by omega) S3 fun h4 y4 y5 y12 S4=>?_
 have ez : ofQ l.length l.length (vals l) = ofZ l:=by rw [ofZ_rep l (by omega)]; rfl
 rw [ez] at S4
 have r4:=(z_at S4 0 rfl).all
 unfold ptr
 repeat (first | (with_reducible apply qzV; simp (disch:=omega) only [coreA,Int.reduceBEq,bzZg,r4] <;> with_reducible rfl) | (with_reducible first | apply qzT | apply qzF | apply qzG | apply qzH) | ((with_reducible first | apply qzB | apply qzC | apply qzD); simp (disch:=omega) only [coreA,Int.reduceBEq,bzZg,r4] <;> with_reducible rfl))
 refine Tl.store' S4 1 rfl sz38 rfl rfl (of_decide_eq_true rfl) fun h5 S5 _=>?_
 have S5 : Stt Tryz.prog h.n h h5 [Zr b3 (ofZ l),Zr b2 (ofZ l)] []:=S5
 have r5:=(z_at S5 1 rfl).all
 repeat (first | (with_reducible apply qzV; simp (disch:=omega) only [coreA,Int.reduceBEq,bzZg,r5] <;> with_reducible rfl) | (with_reducible first | apply qzT | apply qzF | apply qzG | apply qzH) | ((with_reducible first | apply qzB | apply qzC | apply qzD); simp (disch:=omega) only [coreA,Int.reduceBEq,bzZg,r5] <;> with_reducible rfl))
 exact ⟨_,rfl,rfl,S5.grow⟩
end Go.Proofs.YtghelamfaaakcaaGreat.Sh
/- 'SegmentZone' comes to true. -/
set_option linter.unusedVariables false
set_option linter.unusedSimpArgs false
set_option maxRecDepth 100000
namespace Go.Proofs.YtghelamfaaakcaaGreat.Sh
open Go Go.RowKit Go.Proofs.Ev Go.Lib
theorem bzS17 : type_of% (And.intro @ld3 (And.intro @ld2 (And.intro @ld9 (And.intro @ld4 (And.intro @ld31 (And.intro @ld38 (And.intro @fa31_0 (And.intro @fa31_1 (And.intro @fa31_2 (And.intro (fun ox oy a b=>bin_eql_bool (ox:=ox) (oy:=oy) (a:=a) (b:=b) u4) (And.intro (fun ox oy a b=>bin_neq_bool (ox:=ox) (oy:=oy) (a:=a) (b:=b) u4) (And.intro @aggC (And.intro @aggZ (And.intro @ex2_0 (And.intro @ex2_1 (And.intro @ex3_0 (And.intro @ex3_1 (And.intro @ex3_2 (@Nat.add_zero))))))))))))))))))):=And.intro @ld3 (And.intro @ld2 (And.intro @ld9 (And.intro @ld4 (And.intro @ld31 (And.intro @ld38 (And.intro @fa31_0 (And.intro @fa31_1 (And.intro @fa31_2 (And.intro (fun ox oy a b=>bin_eql_bool (ox:=ox) (oy:=oy) (a:=a) (b:=b) u4) (And.intro (fun ox oy a b=>bin_neq_bool (ox:=ox) (oy:=oy) (a:=a) (b:=b) u4) (And.intro @aggC (And.intro @aggZ (And.intro @ex2_0 (And.intro @ex2_1 (And.intro @ex3_0 (And.intro @ex3_1 (And.intro @ex3_2 (@Nat.add_zero))))))))))))))))))
theorem strB_of (s : ByteArray) : strB (bytesN s) = s:=by
 unfold strB bytesN
 rw [List.map_map]
 have e : (UInt8.ofNat ∘ UInt8.toNat) = id:=funext fun x=>by simp
 rw [e,List.map_id]
theorem strB_app (l m : List Nat) : strB (l ++ m) = strB l ++ strB m:=by
 apply ByteArray.ext
 rw [ByteArray.data_append]
 unfold strB
 simp
theorem str_add {x y : Operand} {a b : ByteArray} (h : a.size + b.size ≤ 1000000) : pBin Tryz.prog .add 9 x y (.string a) (.string b) = some (.string (a ++ b)):=by
 have h1 : pBin Tryz.prog .add 9 x y (.string a) (.string b) = chk (prun Tryz.prog (Op.stringOp .add a b)):=rfl
 rw [h1]
 unfold Op.stringOp
 simp only
 have hm : IntKind.i64.max = 9223372036854775807:=by decide
 rw [if_neg (by omega)]
 rfl
theorem open_zone {bs : List Nat} {kind : Int} {l : List Bool} {z : ZoneD} {rest : List Nat} (h : openB bs = some (kind,l,z,rest)) :
  (1 ≤ kind ∧ kind ≤ 3) ∧ 0 ≤ z.nul ∧ (z.nul = z.cnt ∧ z.mn = c0 ∧ z.mx = c0 ∨ z.nul < z.cnt ∧ zoneE z kind = 0):=by
 cases bs with
 | nil=>cases h
 | cons kb r =>
  simp only [openB] at h
  split at h
  ·cases h
  ·rename_i p
   have p:=Classical.not_not.1 p
   split at h
   ·cases h
   ·rename_i l' n hg
    have hc:=cnt_le l'
    split at h
    ·rename_i q
     simp only [Option.some.injEq,Prod.mk.injEq] at h
     obtain ⟨rfl,rfl,rfl,_⟩:=h
     exact ⟨p,by simp only; omega,.inl ⟨by simp only; omega,rfl,rfl⟩⟩
    ·rename_i q
     split at h
     ·cases h
     ·rename_i a b r2 he
      split at h
      ·rename_i hz
       simp only [Option.some.injEq,Prod.mk.injEq] at h
       obtain ⟨rfl,rfl,rfl,_⟩:=h
       exact ⟨p,by simp only; omega,.inr ⟨by simp only; omega,hz⟩⟩
      ·cases h
theorem f4 {k : Nat} {h : AH} {v : Value} {l : List CellD} (A : Cells h v l) (hl : l.length ≤ 9223372036854775807) (hi : ∀ c ∈ l,i64in c.i) (kind cut : Int) (s : ByteArray) :
  Tl (F4 (eInv env (k + 26000)) (k + 26000) (.int .i64 kind) v (.int .i64 cut) (.string s) h) fun r=>r.1 = .bool true:=by
 unfold F4
 obtain ⟨bl,el,hbl⟩:=f10t (k:=k + 25998) A hl (by omega)
 have hlv:=lives_call (k:=k + 25999) (h:=h)
 cases bl
 ·repeat (first | (with_reducible apply qzV; simp (disch:=omega) only [coreA,Int.reduceBEq,bzS17,hlv,el] <;> with_reducible rfl) | (with_reducible first | apply qzT | apply qzF | apply qzG | apply qzH) | ((with_reducible first | apply qzB | apply qzC | apply qzD); simp (disch:=omega) only [coreA,Int.reduceBEq,bzS17,hlv,el] <;> with_reducible rfl))
  exact ⟨_,rfl,rfl⟩
 obtain ⟨hl,htot⟩:=hbl rfl
 have ls : ∀ h' : AH,pLen Tryz.prog #[9] (.string s) h' = some (.int .i64 s.size):=fun h'=>len_string u9
 by_cases q0 : s.size > 600
 ·repeat (first | (with_reducible apply qzV; simp (disch:=omega) only [coreA,Int.reduceBEq,bzS17,hlv,el,ls] <;> with_reducible rfl) | (with_reducible first | apply qzT | apply qzF | apply qzG | apply qzH) | ((with_reducible first | apply qzB | apply qzC | apply qzD); simp (disch:=omega) only [coreA,Int.reduceBEq,bzS17,hlv,el,ls] <;> with_reducible rfl))
  exact ⟨_,rfl,rfl⟩
 repeat (first | (with_reducible apply qzV; simp (disch:=omega) only [coreA,Int.reduceBEq,bzS17,hlv,el,ls] <;> with_reducible rfl) | (with_reducible first | apply qzT | apply qzF | apply qzG | apply qzH) | ((with_reducible first | apply qzB | apply qzC | apply qzD); simp (disch:=omega) only [coreA,Int.reduceBEq,bzS17,hlv,el,ls] <;> with_reducible rfl))
 have hbn:=bytesN_lt s
 have hbl2:=bytesN_len s
 have es : (Value.string s) = .string (strB (bytesN s)):=by rw [strB_of]
 rw [es]
 refine Tl.bind (f15c (k:=k + 23999) hbn (by omega) (by omega)) ?_
 have bz0 : pBuild Tryz.prog 38 #[] = some (zv z0):=by kernel_rfl
 have nz : ∀ (z : ZoneD) x y,pBin Tryz.prog .neq 38 x y (zv z) (zv z) = some (.bool false):=fun z x y=>by rw [neqZ]; simp
 have ez : ∀ (z : ZoneD) x y,pBin Tryz.prog .eql 38 x y (zv z) (zv z) = some (.bool true):=fun z x y=>by rw [eqlZ]; simp
 have fin : ∀ (h1 : AH) (L : List (Nat × AO)),Stt Tryz.prog h.n h h1 L [] →
   Tl (Ev.bnd (eInv env (k + 26000) (.func 13) #[] #[.int .i64 kind,v] h1) fun x57=>Ev.bnd (pExtract x57.1 0) fun x58=>Ev.bnd (pExtract x57.1 1) fun x59=>Ev.bnd (pBin Tryz.prog .neq 25 (.tmp 60) (.const (.int .i64 0)) x59 (.int .i64 0)) fun x61 =>
    brV x61 (some (Value.bool true,x57.2)) (Ev.bnd (pBin Tryz.prog .add 9 (.tmp 63) (.tmp 64) x58 (.string (strB (bytesN s)))) fun x65=>Ev.bnd (eInv env (k + 26000) (.func 15) #[] #[x65] x57.2) fun x66=>Ev.bnd (pExtract x66.1 0) fun x67=>Ev.bnd (pExtract x66.1 1) fun x68=>Ev.bnd (pExtract x66.1 2) fun x69 =>
     Ev.bnd (pAlloc Tryz.prog 38 x66.2) fun x15=>Ev.bnd (kSt (pStore Tryz.prog 38 x15.1 x68 x15.2)) fun u_2=>G4_12 (eInv env (k + 26000)) (.int .i64 kind) v x67 x15.1 x69 u_2.2 fun y8 h_3=>some (y8,h_3))) fun r=>r.1 = .bool true:=by
  intro h1 L S1
  with_reducible refine Tl.call' S1 (f13c (k:=k + 25299) kind (A.grow S1.grow) (by omega) (by omega)) fun h2 S2 g2=>?_
  by_cases q1 : ¬ segE kind l = 0
  ·repeat (first | (with_reducible apply qzV; simp (disch:=omega) only [coreA,Int.reduceBEq,bzS17] <;> with_reducible rfl) | (with_reducible first | apply qzT | apply qzF | apply qzG | apply qzH) | ((with_reducible first | apply qzB | apply qzC | apply qzD); simp (disch:=omega) only [coreA,Int.reduceBEq,bzS17] <;> with_reducible rfl))
   exact ⟨_,rfl,rfl⟩
  have q1 : segE kind l = 0:=Classical.not_not.1 q1
  rw [q1,if_pos rfl]
  obtain ⟨hkd,_,hall⟩:=segE_zero.1 q1
  have ht:=htot fun c hc=>cellE_size (hall c hc).1
  have l1:=segB_len q1 (by omega) (by omega)
  have o1:=open_put q1 hi (bytesN s)
  have hb1 : ∀ x ∈ segB kind l ++ bytesN s,x < 256:=fun x hx=>by
   rcases List.mem_append.1 hx with hx | hx
   ·exact segB_256 hkd l x hx
   ·exact hbn x hx
  have ea:=fun x y=>str_add (x:=x) (y:=y) (a:=strB (segB kind l)) (b:=strB (bytesN s)) (by rw [strB_size,strB_size]; omega)
  rw [← strB_app] at ea
  repeat (first | (with_reducible apply qzV; simp (disch:=omega) only [coreA,Int.reduceBEq,bzS17,ea] <;> with_reducible rfl) | (with_reducible first | apply qzT | apply qzF | apply qzG | apply qzH) | ((with_reducible first | apply qzB | apply qzC | apply qzD); simp (disch:=omega) only [coreA,Int.reduceBEq,bzS17,ea] <;> with_reducible rfl))
  refine Tl.bind (f15c (k:=k + 23999) hb1 (by rw [List.length_append]; omega) (by rw [List.length_append]; omega)) ?_
  rintro ⟨r,h3⟩ ⟨⟨kd,lz,z1,rest,ho,er⟩ | ⟨ho,er⟩,g3⟩
  rotate_left
  ·rw [o1] at ho; cases ho
  rw [o1] at ho
  cases ho
  simp only at er g3
  subst er
  have S3:=S2.call g3
  repeat (first | (with_reducible apply qzV; simp (disch:=omega) only [coreA,Int.reduceBEq,bzS17] <;> with_reducible rfl) | (with_reducible first | apply qzT | apply qzF | apply qzG | apply qzH) | ((with_reducible first | apply qzB | apply qzC | apply qzD); simp (disch:=omega) only [coreA,Int.reduceBEq,bzS17] <;> with_reducible rfl))
  refine Tl.alloc' S3 ze38 rfl fun b15 h4 S4 _=>?_
  refine Tl.store' S4 0 rfl sz38 rfl rfl (of_decide_eq_true rfl) fun h5 S5 _=>?_
  have S5 : Stt Tryz.prog h.n h h5 (Zr b15 (ofZ l) :: L) []:=S5
  have r5:=(z_at S5 0 rfl).all
  repeat (first | (with_reducible apply qzV; simp (disch:=omega) only [coreA,Int.reduceBEq,bzS17,r5] <;> with_reducible rfl) | (with_reducible first | apply qzT | apply qzF | apply qzG | apply qzH) | ((with_reducible first | apply qzB | apply qzC | apply qzD); simp (disch:=omega) only [coreA,Int.reduceBEq,bzS17,r5] <;> with_reducible rfl))
  with_reducible refine Tl.call' S5 (f17c (k:=k + 25998) (A.grow S5.grow) (by omega) (by omega)) fun h6 S6 g6=>?_
  have r6:=(z_at S6 0 rfl).all
  repeat (first | (with_reducible apply qzV; simp (disch:=omega) only [coreA,Int.reduceBEq,bzS17,ez] <;> with_reducible rfl) | (with_reducible first | apply qzT | apply qzF | apply qzG | apply qzH) | ((with_reducible first | apply qzB | apply qzC | apply qzD); simp (disch:=omega) only [coreA,Int.reduceBEq,bzS17,ez] <;> with_reducible rfl))
  with_reducible refine Tl.chk ?_ ?_
  ·simp only [ld38,r5,r6,Option.map_some,aggZ,sameO_some,sameZ,Bool.and_self,Bool.not_true,Bool.or_true,Bool.true_and,Bool.false_or]
  exact ⟨_,rfl,rfl⟩
 rintro ⟨r,h1⟩ ⟨⟨kd,lz,z1,rest,ho,er⟩ | ⟨ho,er⟩,g1⟩
 ·simp only at er g1
  subst er
  obtain ⟨hkd,hn,hz⟩:=open_zone ho
  have S1:=(Stt.init (P:=Tryz.prog) h).call g1
  repeat (first | (with_reducible apply qzV; simp (disch:=omega) only [coreA,Int.reduceBEq,bzS17] <;> with_reducible rfl) | (with_reducible first | apply qzT | apply qzF | apply qzG | apply qzH) | ((with_reducible first | apply qzB | apply qzC | apply qzD); simp (disch:=omega) only [coreA,Int.reduceBEq,bzS17] <;> with_reducible rfl))
  refine Tl.alloc' S1 ze38 rfl fun b10 h2 S2 _=>?_
  refine Tl.store' S2 0 rfl sz38 rfl rfl (of_decide_eq_true rfl) fun h3 S3 _=>?_
  have S3 : Stt Tryz.prog h.n h h3 [Zr b10 z1] []:=S3
  have r3:=(z_at S3 0 rfl).all
  repeat (first | (with_reducible apply qzV; simp (disch:=omega) only [coreA,Int.reduceBEq,bzS17,r3] <;> with_reducible rfl) | (with_reducible first | apply qzT | apply qzF | apply qzG | apply qzH) | ((with_reducible first | apply qzB | apply qzC | apply qzD); simp (disch:=omega) only [coreA,Int.reduceBEq,bzS17,r3] <;> with_reducible rfl))
  with_reducible refine Tl.call' S3 (f16c (k:=k + 25987) z1 kd h3 hkd.1 hkd.2 hn hz) fun h4 S4 g4=>?_
  repeat (first | (with_reducible apply qzV; simp (disch:=omega) only [coreA,Int.reduceBEq,bzS17] <;> with_reducible rfl) | (with_reducible first | apply qzT | apply qzF | apply qzG | apply qzH) | ((with_reducible first | apply qzB | apply qzC | apply qzD); simp (disch:=omega) only [coreA,Int.reduceBEq,bzS17] <;> with_reducible rfl))
  exact fin h4 _ S4
 ·simp only at er g1
  subst er
  have S1:=(Stt.init (P:=Tryz.prog) h).call g1
  repeat (first | (with_reducible apply qzV; simp (disch:=omega) only [coreA,Int.reduceBEq,bzS17] <;> with_reducible rfl) | (with_reducible first | apply qzT | apply qzF | apply qzG | apply qzH) | ((with_reducible first | apply qzB | apply qzC | apply qzD); simp (disch:=omega) only [coreA,Int.reduceBEq,bzS17] <;> with_reducible rfl))
  refine Tl.alloc' S1 ze38 rfl fun b10 h2 S2 _=>?_
  refine Tl.store' S2 0 rfl sz38 rfl rfl (of_decide_eq_true rfl) fun h3 S3 _=>?_
  have S3 : Stt Tryz.prog h.n h h3 [Zr b10 z0] []:=S3
  have r3:=(z_at S3 0 rfl).all
  repeat (first | (with_reducible apply qzV; simp (disch:=omega) only [coreA,Int.reduceBEq,bzS17,r3,bz0,nz] <;> with_reducible rfl) | (with_reducible first | apply qzT | apply qzF | apply qzG | apply qzH) | ((with_reducible first | apply qzB | apply qzC | apply qzD); simp (disch:=omega) only [coreA,Int.reduceBEq,bzS17,r3,bz0,nz] <;> with_reducible rfl))
  exact fin h3 _ S3
end Go.Proofs.YtghelamfaaakcaaGreat.Sh
/- Cells, rows and predicates that are handed in. -/
set_option linter.unusedVariables false
set_option linter.unusedSimpArgs false
set_option maxRecDepth 100000
namespace Go.Proofs.YtghelamfaaakcaaGreat.Sh
open Go Go.RowKit Go.ChangeShapes Go.WideShapes Go.Proofs.Ev
theorem fld {H : Type} {enc : TypeId × Value→H} {W : World} {base n : Nat} {sp : Nat→Bool} {held : Bool} {fs : Array Field} {cs : List Value} {xs : List (DataW H × List MemPlace)} (i t o : Nat) (h : (fs[i]?).map (fun f=>(f.type,f.offset)) = some (t,o))
  (hf : ∀ (i : Nat) (f : Field),fs[i]? = some f→DataW.trod enc Tryz.prog W base sp held n f.type ((cs.drop f.offset).take (Tryz.prog.cellsOf f.type)) = xs[i]?) : DataW.trod enc Tryz.prog W base sp held n t ((cs.drop o).take (Tryz.prog.cellsOf t)) = xs[i]?:=by
 cases hh : fs[i]? with
 | none=>rw [hh] at h; cases h
 | some f =>
  rw [hh] at h
  simp only [Option.map_some,Option.some.injEq,Prod.mk.injEq] at h
  obtain ⟨rfl,rfl⟩:=h
  exact hf i f hh
theorem co3 : Tryz.prog.cellsOf 3 = 1:=by kernel_rfl
theorem co2 : Tryz.prog.cellsOf 2 = 1:=by kernel_rfl
theorem co9 : Tryz.prog.cellsOf 9 = 1:=by kernel_rfl
theorem co31 : Tryz.prog.cellsOf 31 = 3:=by kernel_rfl
theorem st31 : Tryz.prog.underlying 31 = some (.struct (Tryz.prog.fieldsOf 31)):=by kernel_rfl
section
variable {H : Type} {enc : TypeId × Value→H} {W : World} {base b0 fuel : Nat} {held : Bool} {r : Reach} {cs : List Value} {v : Value} {x : DataW H × List MemPlace} {d : DataW H} {ps : List MemPlace} {sp : Nat→Bool}
theorem trod_cell (h : DataW.trod enc Tryz.prog W base sp held fuel 31 cs = some x) :
  ∃ a : CellD,cs = crow a ∧ a.s.size ≤ maxLen ∧ (Lit.int .i64 a.k).wf = true ∧ (Lit.int .i64 a.i).wf = true:=by
 obtain ⟨xs,n,rfl,rfl,hl,hx,hf⟩:=DataW.trod_struct st31 h
 rw [co31] at hl
 rw [show (Tryz.prog.fieldsOf 31).size = 3 by kernel_rfl] at hx
 have e0:=fld 0 3 0 (by kernel_rfl) hf
 have e1:=fld 1 2 1 (by kernel_rfl) hf
 have e2:=fld 2 9 2 (by kernel_rfl) hf
 obtain ⟨x0,x1,x2,rfl⟩ : ∃ x0 x1 x2,cs = [x0,x1,x2]:=by
  match cs,hl with
  | [a,b,c],_=>exact ⟨a,b,c,rfl⟩
 obtain ⟨y0,y1,y2,rfl⟩ : ∃ y0 y1 y2,xs = [y0,y1,y2]:=by
  match xs,hx with
  | [a,b,c],_=>exact ⟨a,b,c,rfl⟩
 simp only [co3,co2,co9,List.drop_zero,List.drop_succ_cons,List.take_succ_cons,List.take_zero,List.getElem?_cons_zero,List.getElem?_cons_succ] at e0 e1 e2
 obtain ⟨k,hk,_,w0⟩:=DataW.trod_int u3 e0
 obtain ⟨i,hi,_,w1⟩:=DataW.trod_int u2 e1
 obtain ⟨s,hs,_,w2⟩:=DataW.trod_string u9 e2
 simp only [List.cons.injEq,and_true] at hk hi hs
 subst hk; subst hi; subst hs
 exact ⟨⟨k,i,s⟩,rfl,w2,w0,w1⟩
theorem tame_crow (n : Nat) (a : CellD) : (crow a).map (tame n 8) = crow a:=by simp [crow,tame]
/-- The value of a slice that is handed in is what is trod. -/
theorem slice_form {t e : TypeId} (ht : Tryz.prog.underlying t = some (.slice e)) (hv : Value.okWide Tryz.prog W r b0 t v) : v.cells.toList = [v]:=by
 rcases okSlice ht hv with rfl | ⟨a,len,cap,rfl,_⟩ <;> rfl
theorem inner_cells {t : TypeId} (ht : Tryz.prog.underlying t = some (.slice 31)) (hf : DataW.trod enc Tryz.prog W base (fun _=>true) held fuel t cs = some x) :
  ∃ v l,cs = [v] ∧ Cells (extHeap W) (tame W.heap.size 8 v) l ∧ l.length ≤ maxLen ∧ ∀ a ∈ l,a.s.size ≤ maxLen ∧ (Lit.int .i64 a.k).wf = true ∧ (Lit.int .i64 a.i).wf = true:=by
 obtain ⟨v,rows,rfl,hZ,hl,hall⟩:=open_inner ht co31 (by omega) hf
 have key : ∀ rows : List (List Value),(∀ q ∈ rows,∃ fuel y,DataW.trod enc Tryz.prog W base (fun _=>true) held fuel 31 q = some y)→∃ l : List CellD,rows = l.map crow ∧ ∀ a ∈ l,a.s.size ≤ maxLen ∧ (Lit.int .i64 a.k).wf = true ∧ (Lit.int .i64 a.i).wf = true:=by
  intro rows
  induction rows with
  | nil=>intro _; exact ⟨[],rfl,fun a ha=>by cases ha⟩
  | cons q rows ih =>
   intro h
   obtain ⟨f,y,hy⟩:=h q (List.mem_cons_self ..)
   obtain ⟨a,rfl,ha⟩:=trod_cell hy
   obtain ⟨l,rfl,hl⟩:=ih fun q hq=>h q (List.mem_cons_of_mem _ hq)
   refine ⟨a :: l,rfl,fun z hz=>?_⟩
   rcases List.mem_cons.1 hz with rfl | hz
   ·exact ha
   ·exact hl z hz
 obtain ⟨l,rfl,hl2⟩:=key rows hall
 refine ⟨v,l,rfl,?_,by simpa using hl,hl2⟩
 rw [List.map_map,show ((fun q=>List.map (tame W.heap.size 8) q) ∘ crow) = crow from funext fun a=>tame_crow _ a] at hZ
 exact hZ
theorem open_cells (hv : Value.okWide Tryz.prog W r b0 22 v) (hd : DataW.Trod enc Tryz.prog W base (fun _=>true) held 22 v d ps) :
  ∃ l,Cells (extHeap W) (tame W.heap.size 8 v) l ∧ l.length ≤ maxLen ∧ ∀ a ∈ l,a.s.size ≤ maxLen ∧ (Lit.int .i64 a.k).wf = true ∧ (Lit.int .i64 a.i).wf = true:=by
 obtain ⟨fuel,hf⟩:=hd
 obtain ⟨v',l,e,h1⟩:=inner_cells u22 hf
 rw [slice_form u22 hv] at e
 cases e
 exact ⟨l,h1⟩
end
end Go.Proofs.YtghelamfaaakcaaGreat.Sh
