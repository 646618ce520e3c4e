/- What lies ahead of the law, put together. -/
import Derived.Test.YtlbmlncdjkdoaaaGreatSzM3
import Derived.Test.YtlbmlncdjkdoaaaGreatSzM1
import Derived.Test.YtlbmlncdjkdoaaaGreatWordM
import Derived.Test.YtlbmlncdjkdoaaaGreatSzM2
import Derived.Test.YtlbmlncdjkdoaaaGreatSzF
import Derived.Test.YtlbmlncdjkdoaaaGreatSzT
/- Codecs: how values are read; 'ends'. -/
set_option linter.unusedVariables false
set_option linter.unusedSimpArgs false
set_option maxRecDepth 100000
namespace Go.Proofs.YtlbmlncdjkdoaaaGreat.Sh
open Go Go.RowKit Go.Proofs.Ev Go.Lib
open Tryz (prog)
def bzS10:=PLift.up (ai @ld3 (ai @ld2 (ai @ld9 (ai @ld121 (ai @ld39 (ai @ld66 (ai @ld135 (ai @ld117 (ai @ld128 (ai @ld136 (ai @ld144 (ai @fa132_1 (ai @fa132_3 (ai @fa140_1 (ai @fa140_3 (ai @fa148_1 (ai @fa148_3 (ai @fa39_0 (ai @fa39_1 (ai @fa39_2 (ai (fun a h=>conv_int (a:=a) (h:=h) u121 u2) (ai (fun a h=>conv_int (a:=a) (h:=h) u121 u3) (ai @aggC (ai @ex2_0 (ai @ex2_1 (ai @ex3_0 (ai @ex3_1 (ai @ex3_2 (@Nat.add_zero)))))))))))))))))))))))))))))
theorem setSelf {α : Type} {L : List α} {i : Nat} {a : α} (h : L[i]? = some a) : L.set i a = L:=by
 apply List.ext_getElem?
 intro j
 by_cases q : i = j
 ·subst q
  rw [List.getElem?_set_self (List.getElem?_eq_some_iff.1 h).1,h]
 ·rw [List.getElem?_set_ne q]
theorem RV.tail {L : List (Nat × AO)} {i : Nat} {rv : Value} {rest : List Nat} {b : Nat} {cs : List Value} {e : TypeId} (R : RV ((b,.cells cs e true) :: L) (i + 1) rv rest) (hs : szT prog e ≠ some 1) : RV L i rv rest:=by
 rcases R with R | ⟨j,bb,o,cs',e',h1,h2,h3,h4⟩
 ·exact .inl R
 ·cases j with
  | zero =>
   simp only [List.getElem?_cons_zero,Option.some.injEq,Prod.mk.injEq,AO.cells.injEq] at h2
   obtain ⟨_,_,rfl,_⟩:=h2
   exact absurd h3 hs
  | succ j=>exact .inr ⟨j,bb,o,cs',e',by omega,by simpa using h2,h3,h4⟩
def endG {α : Type} (rd : List Nat→Option (α × List Nat)) (mk : α→CellD) (r : List Nat) : Option (CellD × CellD × List Nat):=match rd r with
 | none=>none
 | some (a,r1)=>match rd r1 with
  | none=>none
  | some (b,r2)=>some (mk a,mk b,r2)
def mkN (z : Int) : CellD:=⟨1,z,.empty⟩
def mkT (n : Nat) : CellD:=⟨2,IntKind.i64.wrap (n : Int),.empty⟩
def mkW (s : ByteArray) : CellD:=⟨3,0,s⟩
def rdN (r : List Nat) : Option (Int × List Nat):=if r.length < 8 then none else some (IntKind.i64.wrap (ofB (r.take 8) : Int),r.drop 8)
def rdT (r : List Nat) : Option (Nat × List Nat):=if r.length < 1 then none else some (ofB (r.take 1),r.drop 1)
def rdW (r : List Nat) : Option (ByteArray × List Nat):=match dec 0 0 r with
 | none=>none
 | some (n,r1)=>if n > 65536 then none else if r1.length < n then none else some (strB (r1.take n),r1.drop n)
section
variable {n0 : Nat} {h0 h : AH} {L : List (Nat × AO)} {O : List OS} {i br : Nat} {rv : Value} {rest : List Nat}
theorem bdN1 (z : Int) : pBuild prog 39 #[(0,.int .i64 1),(1,.int .i64 z)] = some (mkN z).v:=by kernel_rfl
theorem bdT1 (z : Int) : pBuild prog 39 #[(0,.int .i64 2),(1,.int .i64 z)] = some (CellD.v ⟨2,z,.empty⟩):=by kernel_rfl
theorem bdW1 (s : ByteArray) : pBuild prog 39 #[(0,.int .i64 3),(2,.string s)] = some (mkW s).v:=by kernel_rfl
/-- A value as a cell. -/
theorem f123c {k : Nat} (z : Int) (h : AH) : Tl (eInv env (k + 1) (.func 123) #[] #[.int .i64 z] h) fun r=>r.1 = (mkN z).v ∧ Grow h r.2:=by
 rw [F123_call]
 unfold F123
 refine Tl.alloc' (Stt.init h) ze39 rfl fun b1 h1 S1 _=>?_
 with_reducible repeat (first | (apply qzV; simp (disch:=omega) only [zA,bzS10.1,bdN1] <;> rfl) | apply qzT | apply qzF | (apply qzB; simp (disch:=omega) only [zA,bzS10.1,bdN1] <;> rfl))
 refine Tl.store' S1 0 rfl sz39 rfl rfl (of_decide_eq_true rfl) fun h2 S2 _=>?_
 have S2 : Stt prog h.n h h2 [Cr b1 (mkN z)] []:=S2
 obtain ⟨r1,_⟩:=c_at S2 0 rfl
 with_reducible repeat (first | (apply qzV; simp (disch:=omega) only [zA,bzS10.1,r1] <;> rfl) | apply qzT | apply qzF | (apply qzB; simp (disch:=omega) only [zA,bzS10.1,r1] <;> rfl))
 exact ⟨_,rfl,rfl,S2.grow⟩
/-- A value as a cell. -/
theorem f132c {k : Nat} (z : Nat) (h : AH) : Tl (eInv env (k + 1) (.func 132) #[] #[.int .u64 (z : Int)] h) fun r=>r.1 = (mkT z).v ∧ Grow h r.2:=by
 rw [F132_call]
 unfold F132
 refine Tl.alloc' (Stt.init h) ze39 rfl fun b1 h1 S1 _=>?_
 with_reducible repeat (first | (apply qzV; simp (disch:=omega) only [zA,bzS10.1,bdT1] <;> rfl) | apply qzT | apply qzF | (apply qzB; simp (disch:=omega) only [zA,bzS10.1,bdT1] <;> rfl))
 refine Tl.store' S1 0 rfl sz39 rfl rfl (of_decide_eq_true rfl) fun h2 S2 _=>?_
 have S2 : Stt prog h.n h h2 [Cr b1 (mkT z)] []:=S2
 obtain ⟨r1,_⟩:=c_at S2 0 rfl
 with_reducible repeat (first | (apply qzV; simp (disch:=omega) only [zA,bzS10.1,r1] <;> rfl) | apply qzT | apply qzF | (apply qzB; simp (disch:=omega) only [zA,bzS10.1,r1] <;> rfl))
 exact ⟨_,rfl,rfl,S2.grow⟩
/-- A value as a cell. -/
theorem f139c {k : Nat} (z : ByteArray) (h : AH) : Tl (eInv env (k + 1) (.func 139) #[] #[.string z] h) fun r=>r.1 = (mkW z).v ∧ Grow h r.2:=by
 rw [F139_call]
 unfold F139
 refine Tl.alloc' (Stt.init h) ze39 rfl fun b1 h1 S1 _=>?_
 with_reducible repeat (first | (apply qzV; simp (disch:=omega) only [zA,bzS10.1,bdW1] <;> rfl) | apply qzT | apply qzF | (apply qzB; simp (disch:=omega) only [zA,bzS10.1,bdW1] <;> rfl))
 refine Tl.store' S1 0 rfl sz39 rfl rfl (of_decide_eq_true rfl) fun h2 S2 _=>?_
 have S2 : Stt prog h.n h h2 [Cr b1 (mkW z)] []:=S2
 obtain ⟨r1,_⟩:=c_at S2 0 rfl
 with_reducible repeat (first | (apply qzV; simp (disch:=omega) only [zA,bzS10.1,r1] <;> rfl) | apply qzT | apply qzF | (apply qzB; simp (disch:=omega) only [zA,bzS10.1,r1] <;> rfl))
 exact ⟨_,rfl,rfl,S2.grow⟩
theorem f126c {k : Nat} (S : Stt prog n0 h0 h L O) (hi : L[i]? = some (Rb br rv)) (R : RV L i rv rest) (hl : rest.length ≤ 2 ^ 30) (hb : ∀ x ∈ rest,x < 256) : Tl (eInv env (k + 24) (.func 126) #[] #[ptr br] h) fun r=>(∃ (z : Int) (rest' : List Nat) (rv' : Value),rdN rest = some (z,rest') ∧ r.1 = .tuple #[.int .i64 z,.int .i64 0] ∧ Stt prog n0 h0 r.2 (L.set i (Rb br rv')) O ∧ RV (L.set i (Rb br rv')) i rv' rest') ∨
   (rdN rest = none ∧ ∃ (z : Int) (e : Int) (rv' : Value),e ≠ 0 ∧ r.1 = .tuple #[.int .i64 z,.int .i64 e] ∧ Stt prog n0 h0 r.2 (L.set i (Rb br rv')) O):=by
 rw [F126_call]
 unfold F126 rdN
 by_cases q : rest.length < 8
 ·refine Tl.bind (f127n (k:=k) S hi R (n:=8) (by omega) (by omega) q) ?_
  rintro ⟨r,h1⟩ ⟨er,g⟩
  simp only at er g
  subst er
  with_reducible repeat (first | (apply qzV; simp (disch:=omega) only [zA,bzS10.1] <;> rfl) | apply qzT | apply qzF | (apply qzB; simp (disch:=omega) only [zA,bzS10.1] <;> rfl))
  refine ⟨_,rfl,.inr ⟨if_pos q,_,7,rv,by decide,rfl,?_⟩⟩
  rw [setSelf hi]
  exact S.call g
 ·refine Tl.bind (f127c (k:=k) S hi R (n:=8) (by omega) (by omega) (by omega) hl hb) ?_
  rintro ⟨r,h1⟩ ⟨rv',er,S1,R1⟩
  simp only at er S1
  subst er
  with_reducible repeat (first | (apply qzV; simp (disch:=omega) only [zA,bzS10.1] <;> rfl) | apply qzT | apply qzF | (apply qzB; simp (disch:=omega) only [zA,bzS10.1] <;> rfl))
  exact ⟨_,rfl,.inl ⟨_,_,rv',if_neg q,rfl,S1,R1⟩⟩
theorem f134c {k : Nat} (S : Stt prog n0 h0 h L O) (hi : L[i]? = some (Rb br rv)) (R : RV L i rv rest) (hl : rest.length ≤ 2 ^ 30) (hb : ∀ x ∈ rest,x < 256) : Tl (eInv env (k + 24) (.func 134) #[] #[ptr br] h) fun r=>(∃ (z : Nat) (rest' : List Nat) (rv' : Value),rdT rest = some (z,rest') ∧ r.1 = .tuple #[.int .u64 (z : Int),.int .i64 0] ∧ Stt prog n0 h0 r.2 (L.set i (Rb br rv')) O ∧ RV (L.set i (Rb br rv')) i rv' rest') ∨
   (rdT rest = none ∧ ∃ (z : Nat) (e : Int) (rv' : Value),e ≠ 0 ∧ r.1 = .tuple #[.int .u64 (z : Int),.int .i64 e] ∧ Stt prog n0 h0 r.2 (L.set i (Rb br rv')) O):=by
 rw [F134_call]
 unfold F134 rdT
 by_cases q : rest.length < 1
 ·refine Tl.bind (f127n (k:=k) S hi R (n:=1) (by omega) (by omega) q) ?_
  rintro ⟨r,h1⟩ ⟨er,g⟩
  simp only at er g
  subst er
  with_reducible repeat (first | (apply qzV; simp (disch:=omega) only [zA,bzS10.1] <;> rfl) | apply qzT | apply qzF | (apply qzB; simp (disch:=omega) only [zA,bzS10.1] <;> rfl))
  refine ⟨_,rfl,.inr ⟨if_pos q,0,7,rv,by decide,rfl,?_⟩⟩
  rw [setSelf hi]
  exact S.call g
 ·refine Tl.bind (f127c (k:=k) S hi R (n:=1) (by omega) (by omega) (by omega) hl hb) ?_
  rintro ⟨r,h1⟩ ⟨rv',er,S1,R1⟩
  simp only at er S1
  subst er
  with_reducible repeat (first | (apply qzV; simp (disch:=omega) only [zA,bzS10.1] <;> rfl) | apply qzT | apply qzF | (apply qzB; simp (disch:=omega) only [zA,bzS10.1] <;> rfl))
  exact ⟨_,rfl,.inl ⟨_,_,rv',if_neg q,rfl,S1,R1⟩⟩
theorem dec_sub : ∀ (b : List Nat) {i acc v : Nat} {rest : List Nat},dec i acc b = some (v,rest)→rest.length < b.length ∧ ∀ x ∈ rest,x ∈ b:=by
 intro b
 induction b with
 | nil=>intro i acc v rest h; simp [dec] at h
 | cons c b ih =>
  intro i acc v rest h
  unfold dec at h
  split at h
  ·cases h
  ·split at h
   ·cases h
   ·split at h
    ·obtain ⟨h1,h2⟩:=ih h
     exact ⟨by simp; omega,fun x hx=>by simp [h2 x hx]⟩
    ·split at h
     ·cases h
     ·cases h
      exact ⟨by simp,fun x hx=>by simp [hx]⟩
theorem f141c {k : Nat} (S : Stt prog n0 h0 h L O) (hi : L[i]? = some (Rb br rv)) (R : RV L i rv rest) (hl : rest.length ≤ 2 ^ 30) (hb : ∀ x ∈ rest,x < 256) (hk : rest.length < k) : Tl (eInv env (k + 24) (.func 141) #[] #[ptr br] h) fun r=>(∃ (z : ByteArray) (rest' : List Nat) (rv' : Value),rdW rest = some (z,rest') ∧ r.1 = .tuple #[.string z,.int .i64 0] ∧ Stt prog n0 h0 r.2 (L.set i (Rb br rv')) O ∧ RV (L.set i (Rb br rv')) i rv' rest') ∨
   (rdW rest = none ∧ ∃ (z : ByteArray) (e : Int) (rv' : Value),e ≠ 0 ∧ r.1 = .tuple #[.string z,.int .i64 e] ∧ Stt prog n0 h0 r.2 (L.set i (Rb br rv')) O):=by
 rw [F141_call]
 unfold F141 rdW
 refine Tl.bind (f142c (k:=k + 17) S hi R (by omega) hb (by omega)) ?_
 rintro ⟨r,h1⟩ (⟨n,r1,rv1,hd,er,S1,R1⟩ | ⟨hd,e,he,er⟩)
 ·simp only at er S1
  subst er
  rw [hd]
  have hs:=dec_sub rest hd
  have hi1 : (L.set i (Rb br rv1))[i]? = some (Rb br rv1):=List.getElem?_set_self (List.getElem?_eq_some_iff.1 hi).1
  by_cases q : n > 65536
  ·with_reducible repeat (first | (apply qzV; simp (disch:=omega) only [zA,bzS10.1] <;> rfl) | apply qzT | apply qzF | apply qzG | ((first | apply qzB | apply qzC); simp (disch:=omega) only [zA,bzS10.1] <;> rfl))
   exact ⟨_,rfl,.inr ⟨if_pos q,.empty,4,rv1,by decide,rfl,S1⟩⟩
  ·have hw : IntKind.i64.wrap (n : Int) = (n : Int):=wr_i64 (by omega)
   by_cases q2 : r1.length < n
   ·obtain ⟨r,e1,e,he,er⟩:=f99n (k:=k + 20) S1 hi1 R1 (n:=(n : Int)) (.inl (by omega))
    subst er
    have cb : pConv prog 93 9 (.slice none 0 0) h1 = some (.string (strB [])):=convB (.inl ⟨rfl,rfl⟩)
    with_reducible repeat (first | (apply qzV; simp (disch:=omega) only [zA,bzS10.1,hw,e1,cb] <;> rfl) | apply qzT | apply qzF | apply qzG | ((first | apply qzB | apply qzC); simp (disch:=omega) only [zA,bzS10.1,hw,e1,cb] <;> rfl))
    refine ⟨_,rfl,.inr ⟨by simp only; rw [if_neg q,if_pos q2],strB [],e,rv1,he,rfl,S1⟩⟩
   ·have e1:=f99c (k:=k + 20) S1 hi1 R1 (n:=n) (by omega) (by omega)
    with_reducible repeat (first | (apply qzV; simp (disch:=omega) only [zA,bzS10.1,hw] <;> rfl) | apply qzT | apply qzF | apply qzG | ((first | apply qzB | apply qzC); simp (disch:=omega) only [zA,bzS10.1,hw] <;> rfl))
    refine Tl.bind e1 ?_
    rintro ⟨r,h2⟩ ⟨v',rv2,er,S2,R2⟩
    simp only at er S2
    subst er
    have cb:=convB (S2.sl1 (f:=u8v) (l:=r1.take n) 0 rfl)
    with_reducible repeat (first | (apply qzV; simp (disch:=omega) only [zA,bzS10.1,cb] <;> rfl) | apply qzT | apply qzF | apply qzG | ((first | apply qzB | apply qzC); simp (disch:=omega) only [zA,bzS10.1,cb] <;> rfl))
    rw [List.set_set] at S2 R2
    exact ⟨_,rfl,.inl ⟨_,_,rv2,by simp only; rw [if_neg q,if_neg q2],rfl,S2.dropO,R2⟩⟩
 ·cases er
  rw [hd]
  with_reducible repeat (first | (apply qzV; simp (disch:=omega) only [zA,bzS10.1] <;> rfl) | apply qzT | apply qzF | apply qzG | ((first | apply qzB | apply qzC); simp (disch:=omega) only [zA,bzS10.1] <;> rfl))
  refine ⟨_,rfl,.inr ⟨rfl,.empty,4,rv,by decide,rfl,?_⟩⟩
  rw [setSelf hi]
  exact S
def endN (r : List Nat) : Option (CellD × CellD × List Nat):=endG rdN mkN r
theorem rdN_sub {r r1 : List Nat} {a : Int} (h : rdN r = some (a,r1)) : r1.length ≤ r.length ∧ ∀ x ∈ r1,x ∈ r:=by
 unfold rdN at h
 split at h
 ·cases h
 ·simp only [Option.some.injEq,Prod.mk.injEq] at h
  obtain ⟨_,rfl⟩:=h
  exact ⟨by rw [List.length_drop]; omega,fun x hx=>List.mem_of_mem_drop hx⟩
/-- 'ends'. -/
theorem endsN_c {k : Nat} (S : Stt prog n0 h0 h L O) (hi : L[i]? = some (Rb br rv)) (R : RV L i rv rest) (hl : rest.length ≤ 2 ^ 30) (hb : ∀ x ∈ rest, x < 256) : Tl (eInv env (k + 31) (.method "shadowbook/segment.ends") #[] #[.iface 132 (.agg codNL.toArray), ptr br] h) fun r => ∃ (a b : CellD) (e : Int) (rv' : Value), r.1 = .tuple #[a.v, b.v, .int .i64 e] ∧ Stt prog n0 h0 r.2 (L.set i (Rb br rv')) O ∧
   ((∃ rest',endN rest = some (a,b,rest') ∧ e = 0 ∧ RV (L.set i (Rb br rv')) i rv' rest') ∨ (endN rest = none ∧ e ≠ 0)):=by
 rw [show eInv env (k + 31) (.method "shadowbook/segment.ends") #[] #[.iface 132 (.agg codNL.toArray), ptr br] h = F261 (eInv env (k + 30)) (k + 30) (.agg codNL.toArray) (ptr br) h from
  (by kernel_rfl : _ = eFun env (k + 30) (eInv env (k + 30)) 261 #[.agg codNL.toArray,ptr br] h).trans F261_eq]
 unfold F261
 refine Tl.box' S rfl isN fun b2 h1 S1 _=>?_
 refine Tl.alloc' S1 ze39 rfl fun b4 h2 S2 _=>?_
 refine Tl.alloc' S2 ze39 rfl fun b5 h3 S3 _=>?_
 have S3 : Stt prog n0 h0 h3 (Cr b5 c0 :: Cr b4 c0 :: (b2,.cells codNL 132 true) :: L) O:=S3
 have R3 : RV (Cr b5 c0 :: Cr b4 c0 :: (b2,.cells codNL 132 true) :: L) (i + 3) rv rest:=((R.cons _).cons _).cons _
 have c3:=S3.cell (o:=3) (v:=.func (.func 126) #[] #[]) 2 rfl rfl
 with_reducible repeat (first | (apply qzV; simp (disch:=omega) only [zA,bzS10.1,c3] <;> rfl) | apply qzT | apply qzF | apply qzG | apply qzH | ((first | apply qzB | apply qzC | apply qzD); simp (disch:=omega) only [zA,bzS10.1,c3] <;> rfl))
 rw [callV_fn1]
 refine Tl.bind (f126c (k:=k + 6) S3 (i:=i + 3) (by simpa using hi) R3 hl hb) ?_
 rintro ⟨r,h4⟩ (⟨z,r1,rv1,hd,er,S4,R4⟩ | ⟨hd,z,e,rv1,he,er,S4⟩)
 ·simp only at er S4
  subst er
  have hsub:=rdN_sub hd
  have S4 : Stt prog n0 h0 h4 (Cr b5 c0 :: Cr b4 c0 :: (b2,.cells codNL 132 true) :: L.set i (Rb br rv1)) O:=S4
  have R4 : RV (Cr b5 c0 :: Cr b4 c0 :: (b2,.cells codNL 132 true) :: L.set i (Rb br rv1)) (i + 3) rv1 r1:=R4
  have hi4 : (L.set i (Rb br rv1))[i]? = some (Rb br rv1):=List.getElem?_set_self (List.getElem?_eq_some_iff.1 hi).1
  have c4:=S4.cell (o:=3) (v:=.func (.func 126) #[] #[]) 2 rfl rfl
  with_reducible repeat (first | (apply qzV; simp (disch:=omega) only [zA,bzS10.1,c4] <;> rfl) | apply qzT | apply qzF | apply qzG | apply qzH | ((first | apply qzB | apply qzC | apply qzD); simp (disch:=omega) only [zA,bzS10.1,c4] <;> rfl))
  rw [callV_fn1]
  have fin : ∀ (z2 : Int) (e2 : Int) (rv2 : Value) (h5 : AH),Stt prog n0 h0 h5 (Cr b5 c0 :: Cr b4 c0 :: (b2,.cells codNL 132 true) :: L.set i (Rb br rv2)) O →
    Tl (G261_5 (eInv env (k + 30)) (.pointer (some ⟨b2,0,none⟩)) (.pointer (some ⟨b4,0,none⟩)) (.pointer (some ⟨b5,0,none⟩)) (.int .i64 e2) (.int .i64 z) (.int .i64 z2) h5 fun h=>Ev.bnd (pLoad prog 39 (.pointer (some ⟨b4,0,none⟩)) h) fun q0=>Ev.bnd (pLoad prog 39 (.pointer (some ⟨b5,0,none⟩)) h) fun q1=>some (Value.tuple #[q0,q1,.int .i64 e2],h))
     fun r=>r.1 = .tuple #[(mkN z).v,(mkN z2).v,.int .i64 e2] ∧ Stt prog n0 h0 r.2 (L.set i (Rb br rv2)) O:=by
   intro z2 e2 rv2 h5 S5
   have c5:=S5.cell (o:=1) (v:=.func (.func 123) #[] #[]) 2 rfl rfl
   with_reducible repeat (first | (apply qzV; simp (disch:=omega) only [zA,bzS10.1,c5] <;> rfl) | apply qzT | apply qzF | apply qzG | apply qzH | ((first | apply qzB | apply qzC | apply qzD); simp (disch:=omega) only [zA,bzS10.1,c5] <;> rfl))
   rw [callV_fn1]
   with_reducible refine Tl.call' S5 (f123c (k:=k + 29) z h5) fun h6 S6 _=>?_
   have c6:=S6.cell (o:=1) (v:=.func (.func 123) #[] #[]) 2 rfl rfl
   with_reducible repeat (first | (apply qzV; simp (disch:=omega) only [zA,bzS10.1,c6] <;> rfl) | apply qzT | apply qzF | apply qzG | apply qzH | ((first | apply qzB | apply qzC | apply qzD); simp (disch:=omega) only [zA,bzS10.1,c6] <;> rfl))
   rw [callV_fn1]
   with_reducible refine Tl.call' S6 (f123c (k:=k + 29) z2 h6) fun h7 S7 _=>?_
   refine Tl.store' S7 1 rfl sz39 rfl rfl (of_decide_eq_true rfl) fun h8 S8 _=>?_
   have S8 : Stt prog n0 h0 h8 (Cr b5 c0 :: Cr b4 (mkN z) :: (b2,.cells codNL 132 true) :: L.set i (Rb br rv2)) O:=S8
   refine Tl.store' S8 0 rfl sz39 rfl rfl (of_decide_eq_true rfl) fun h9 S9 _=>?_
   have S9 : Stt prog n0 h0 h9 (Cr b5 (mkN z2) :: Cr b4 (mkN z) :: (b2,.cells codNL 132 true) :: L.set i (Rb br rv2)) O:=S9
   with_reducible refine Tl.chk ?_ ?_
   ·simp only [ld66,c5,c6,sameO_some,sameF,Bool.and_self,Bool.not_true,Bool.or_true,Bool.true_and,Bool.false_or]
   obtain ⟨q4,_⟩:=c_at S9 1 rfl
   obtain ⟨q5,_⟩:=c_at S9 0 rfl
   with_reducible repeat (first | (apply qzV; simp (disch:=omega) only [zA,bzS10.1,q4,q5] <;> rfl) | apply qzT | apply qzF | apply qzG | apply qzH | ((first | apply qzB | apply qzC | apply qzD); simp (disch:=omega) only [zA,bzS10.1,q4,q5] <;> rfl))
   exact ⟨_,rfl,rfl,S9.drop.drop.drop⟩
  refine Tl.bind (f126c (k:=k + 6) S4 (i:=i + 3) (by simpa using hi4) R4 (by omega) (fun x hx=>hb x (hsub.2 x hx))) ?_
  rintro ⟨r,h5⟩ (⟨z2,r2,rv2,hd2,er,S5,R5⟩ | ⟨hd2,z2,e,rv2,he,er,S5⟩)
  ·simp only at er S5
   subst er
   have S5 : Stt prog n0 h0 h5 (Cr b5 c0 :: Cr b4 c0 :: (b2,.cells codNL 132 true) :: L.set i (Rb br rv2)) O:=by rw [← List.set_set (Rb br rv1)]; exact S5
   have R5 : RV (Cr b5 c0 :: Cr b4 c0 :: (b2,.cells codNL 132 true) :: L.set i (Rb br rv2)) (i + 3) rv2 r2:=by rw [← List.set_set (Rb br rv1)]; exact R5
   with_reducible repeat (first | (apply qzV; simp (disch:=omega) only [zA,bzS10.1] <;> rfl) | apply qzT | apply qzF | apply qzG | apply qzH | ((first | apply qzB | apply qzC | apply qzD); simp (disch:=omega) only [zA,bzS10.1] <;> rfl))
   obtain ⟨rr,e1,e2,S6⟩:=fin z2 0 rv2 h5 S5
   have R6:=((R5.tail (by rw [sz39]; decide)).tail (by rw [sz39]; decide)).tail (by rw [sz132]; decide)
   exact ⟨rr,e1,mkN z,mkN z2,0,rv2,e2,S6,.inl ⟨r2,by unfold endN endG; simp only [hd,hd2],rfl,R6⟩⟩
  ·simp only at er S5
   subst er
   have S5 : Stt prog n0 h0 h5 (Cr b5 c0 :: Cr b4 c0 :: (b2,.cells codNL 132 true) :: L.set i (Rb br rv2)) O:=by rw [← List.set_set (Rb br rv1)]; exact S5
   with_reducible repeat (first | (apply qzV; simp (disch:=omega) only [zA,bzS10.1] <;> rfl) | apply qzT | apply qzF | apply qzG | apply qzH | ((first | apply qzB | apply qzC | apply qzD); simp (disch:=omega) only [zA,bzS10.1] <;> rfl))
   obtain ⟨rr,e1,e2,S6⟩:=fin z2 e rv2 h5 S5
   exact ⟨rr,e1,mkN z,mkN z2,e,rv2,e2,S6,.inr ⟨by unfold endN endG; simp only [hd,hd2],he⟩⟩
 ·simp only at er S4
  subst er
  have S4 : Stt prog n0 h0 h4 (Cr b5 c0 :: Cr b4 c0 :: (b2,.cells codNL 132 true) :: L.set i (Rb br rv1)) O:=S4
  obtain ⟨q4,_⟩:=c_at S4 1 rfl
  obtain ⟨q5,_⟩:=c_at S4 0 rfl
  with_reducible repeat (first | (apply qzV; simp (disch:=omega) only [zA,bzS10.1,q4,q5] <;> rfl) | apply qzT | apply qzF | apply qzG | apply qzH | ((first | apply qzB | apply qzC | apply qzD); simp (disch:=omega) only [zA,bzS10.1,q4,q5] <;> rfl))
  refine Tl.store' S4 1 rfl sz39 rfl rfl (of_decide_eq_true rfl) fun h5 S5 _=>?_
  have S5 : Stt prog n0 h0 h5 (Cr b5 c0 :: Cr b4 c0 :: (b2,.cells codNL 132 true) :: L.set i (Rb br rv1)) O:=S5
  obtain ⟨p5,_⟩:=c_at S5 0 rfl
  refine Tl.store' S5 0 rfl sz39 rfl rfl (of_decide_eq_true rfl) fun h6 S6 _=>?_
  have S6 : Stt prog n0 h0 h6 (Cr b5 c0 :: Cr b4 c0 :: (b2,.cells codNL 132 true) :: L.set i (Rb br rv1)) O:=S6
  with_reducible refine Tl.chk ?_ ?_
  ·simp only [ld39,q5,p5,Option.map_some,aggC,sameO_some,sameC,Bool.and_self,Bool.not_true,Bool.or_true,Bool.true_and,Bool.false_or]
  obtain ⟨t4,_⟩:=c_at S6 1 rfl
  obtain ⟨t5,_⟩:=c_at S6 0 rfl
  with_reducible repeat (first | (apply qzV; simp (disch:=omega) only [zA,bzS10.1,t4,t5] <;> rfl) | apply qzT | apply qzF | apply qzG | apply qzH | ((first | apply qzB | apply qzC | apply qzD); simp (disch:=omega) only [zA,bzS10.1,t4,t5] <;> rfl))
  exact ⟨_,rfl,c0,c0,e,rv1,rfl,S6.drop.drop.drop,.inr ⟨by unfold endN endG; simp only [hd],he⟩⟩
def endT (r : List Nat) : Option (CellD × CellD × List Nat):=endG rdT mkT r
theorem rdT_sub {r r1 : List Nat} {a : Nat} (h : rdT r = some (a,r1)) : r1.length ≤ r.length ∧ ∀ x ∈ r1,x ∈ r:=by
 unfold rdT at h
 split at h
 ·cases h
 ·simp only [Option.some.injEq,Prod.mk.injEq] at h
  obtain ⟨_,rfl⟩:=h
  exact ⟨by rw [List.length_drop]; omega,fun x hx=>List.mem_of_mem_drop hx⟩
/-- 'ends'. -/
theorem endsT_c {k : Nat} (S : Stt prog n0 h0 h L O) (hi : L[i]? = some (Rb br rv)) (R : RV L i rv rest) (hl : rest.length ≤ 2 ^ 30) (hb : ∀ x ∈ rest, x < 256) : Tl (eInv env (k + 31) (.method "shadowbook/segment.ends") #[] #[.iface 140 (.agg codTL.toArray), ptr br] h) fun r => ∃ (a b : CellD) (e : Int) (rv' : Value), r.1 = .tuple #[a.v, b.v, .int .i64 e] ∧ Stt prog n0 h0 r.2 (L.set i (Rb br rv')) O ∧
   ((∃ rest',endT rest = some (a,b,rest') ∧ e = 0 ∧ RV (L.set i (Rb br rv')) i rv' rest') ∨ (endT rest = none ∧ e ≠ 0)):=by
 rw [show eInv env (k + 31) (.method "shadowbook/segment.ends") #[] #[.iface 140 (.agg codTL.toArray), ptr br] h = F265 (eInv env (k + 30)) (k + 30) (.agg codTL.toArray) (ptr br) h from
  (by kernel_rfl : _ = eFun env (k + 30) (eInv env (k + 30)) 265 #[.agg codTL.toArray,ptr br] h).trans F265_eq]
 unfold F265
 refine Tl.box' S rfl isT fun b2 h1 S1 _=>?_
 refine Tl.alloc' S1 ze39 rfl fun b4 h2 S2 _=>?_
 refine Tl.alloc' S2 ze39 rfl fun b5 h3 S3 _=>?_
 have S3 : Stt prog n0 h0 h3 (Cr b5 c0 :: Cr b4 c0 :: (b2,.cells codTL 140 true) :: L) O:=S3
 have R3 : RV (Cr b5 c0 :: Cr b4 c0 :: (b2,.cells codTL 140 true) :: L) (i + 3) rv rest:=((R.cons _).cons _).cons _
 have c3:=S3.cell (o:=3) (v:=.func (.func 134) #[] #[]) 2 rfl rfl
 with_reducible repeat (first | (apply qzV; simp (disch:=omega) only [zA,bzS10.1,c3] <;> rfl) | apply qzT | apply qzF | apply qzG | apply qzH | ((first | apply qzB | apply qzC | apply qzD); simp (disch:=omega) only [zA,bzS10.1,c3] <;> rfl))
 rw [callV_fn1]
 refine Tl.bind (f134c (k:=k + 6) S3 (i:=i + 3) (by simpa using hi) R3 hl hb) ?_
 rintro ⟨r,h4⟩ (⟨z,r1,rv1,hd,er,S4,R4⟩ | ⟨hd,z,e,rv1,he,er,S4⟩)
 ·simp only at er S4
  subst er
  have hsub:=rdT_sub hd
  have S4 : Stt prog n0 h0 h4 (Cr b5 c0 :: Cr b4 c0 :: (b2,.cells codTL 140 true) :: L.set i (Rb br rv1)) O:=S4
  have R4 : RV (Cr b5 c0 :: Cr b4 c0 :: (b2,.cells codTL 140 true) :: L.set i (Rb br rv1)) (i + 3) rv1 r1:=R4
  have hi4 : (L.set i (Rb br rv1))[i]? = some (Rb br rv1):=List.getElem?_set_self (List.getElem?_eq_some_iff.1 hi).1
  have c4:=S4.cell (o:=3) (v:=.func (.func 134) #[] #[]) 2 rfl rfl
  with_reducible repeat (first | (apply qzV; simp (disch:=omega) only [zA,bzS10.1,c4] <;> rfl) | apply qzT | apply qzF | apply qzG | apply qzH | ((first | apply qzB | apply qzC | apply qzD); simp (disch:=omega) only [zA,bzS10.1,c4] <;> rfl))
  rw [callV_fn1]
  have fin : ∀ (z2 : Nat) (e2 : Int) (rv2 : Value) (h5 : AH),Stt prog n0 h0 h5 (Cr b5 c0 :: Cr b4 c0 :: (b2,.cells codTL 140 true) :: L.set i (Rb br rv2)) O →
    Tl (G265_5 (eInv env (k + 30)) (.pointer (some ⟨b2,0,none⟩)) (.pointer (some ⟨b4,0,none⟩)) (.pointer (some ⟨b5,0,none⟩)) (.int .i64 e2) (.int .u64 (z : Int)) (.int .u64 (z2 : Int)) h5 fun h=>Ev.bnd (pLoad prog 39 (.pointer (some ⟨b4,0,none⟩)) h) fun q0=>Ev.bnd (pLoad prog 39 (.pointer (some ⟨b5,0,none⟩)) h) fun q1=>some (Value.tuple #[q0,q1,.int .i64 e2],h))
     fun r=>r.1 = .tuple #[(mkT z).v,(mkT z2).v,.int .i64 e2] ∧ Stt prog n0 h0 r.2 (L.set i (Rb br rv2)) O:=by
   intro z2 e2 rv2 h5 S5
   have c5:=S5.cell (o:=1) (v:=.func (.func 132) #[] #[]) 2 rfl rfl
   with_reducible repeat (first | (apply qzV; simp (disch:=omega) only [zA,bzS10.1,c5] <;> rfl) | apply qzT | apply qzF | apply qzG | apply qzH | ((first | apply qzB | apply qzC | apply qzD); simp (disch:=omega) only [zA,bzS10.1,c5] <;> rfl))
   rw [callV_fn1]
   with_reducible refine Tl.call' S5 (f132c (k:=k + 29) z h5) fun h6 S6 _=>?_
   have c6:=S6.cell (o:=1) (v:=.func (.func 132) #[] #[]) 2 rfl rfl
   with_reducible repeat (first | (apply qzV; simp (disch:=omega) only [zA,bzS10.1,c6] <;> rfl) | apply qzT | apply qzF | apply qzG | apply qzH | ((first | apply qzB | apply qzC | apply qzD); simp (disch:=omega) only [zA,bzS10.1,c6] <;> rfl))
   rw [callV_fn1]
   with_reducible refine Tl.call' S6 (f132c (k:=k + 29) z2 h6) fun h7 S7 _=>?_
   refine Tl.store' S7 1 rfl sz39 rfl rfl (of_decide_eq_true rfl) fun h8 S8 _=>?_
   have S8 : Stt prog n0 h0 h8 (Cr b5 c0 :: Cr b4 (mkT z) :: (b2,.cells codTL 140 true) :: L.set i (Rb br rv2)) O:=S8
   refine Tl.store' S8 0 rfl sz39 rfl rfl (of_decide_eq_true rfl) fun h9 S9 _=>?_
   have S9 : Stt prog n0 h0 h9 (Cr b5 (mkT z2) :: Cr b4 (mkT z) :: (b2,.cells codTL 140 true) :: L.set i (Rb br rv2)) O:=S9
   with_reducible refine Tl.chk ?_ ?_
   ·simp only [ld135,c5,c6,sameO_some,sameF,Bool.and_self,Bool.not_true,Bool.or_true,Bool.true_and,Bool.false_or]
   obtain ⟨q4,_⟩:=c_at S9 1 rfl
   obtain ⟨q5,_⟩:=c_at S9 0 rfl
   with_reducible repeat (first | (apply qzV; simp (disch:=omega) only [zA,bzS10.1,q4,q5] <;> rfl) | apply qzT | apply qzF | apply qzG | apply qzH | ((first | apply qzB | apply qzC | apply qzD); simp (disch:=omega) only [zA,bzS10.1,q4,q5] <;> rfl))
   exact ⟨_,rfl,rfl,S9.drop.drop.drop⟩
  refine Tl.bind (f134c (k:=k + 6) S4 (i:=i + 3) (by simpa using hi4) R4 (by omega) (fun x hx=>hb x (hsub.2 x hx))) ?_
  rintro ⟨r,h5⟩ (⟨z2,r2,rv2,hd2,er,S5,R5⟩ | ⟨hd2,z2,e,rv2,he,er,S5⟩)
  ·simp only at er S5
   subst er
   have S5 : Stt prog n0 h0 h5 (Cr b5 c0 :: Cr b4 c0 :: (b2,.cells codTL 140 true) :: L.set i (Rb br rv2)) O:=by rw [← List.set_set (Rb br rv1)]; exact S5
   have R5 : RV (Cr b5 c0 :: Cr b4 c0 :: (b2,.cells codTL 140 true) :: L.set i (Rb br rv2)) (i + 3) rv2 r2:=by rw [← List.set_set (Rb br rv1)]; exact R5
   with_reducible repeat (first | (apply qzV; simp (disch:=omega) only [zA,bzS10.1] <;> rfl) | apply qzT | apply qzF | apply qzG | apply qzH | ((first | apply qzB | apply qzC | apply qzD); simp (disch:=omega) only [zA,bzS10.1] <;> rfl))
   obtain ⟨rr,e1,e2,S6⟩:=fin z2 0 rv2 h5 S5
   have R6:=((R5.tail (by rw [sz39]; decide)).tail (by rw [sz39]; decide)).tail (by rw [sz140]; decide)
   exact ⟨rr,e1,mkT z,mkT z2,0,rv2,e2,S6,.inl ⟨r2,by unfold endT endG; simp only [hd,hd2],rfl,R6⟩⟩
  ·simp only at er S5
   subst er
   have S5 : Stt prog n0 h0 h5 (Cr b5 c0 :: Cr b4 c0 :: (b2,.cells codTL 140 true) :: L.set i (Rb br rv2)) O:=by rw [← List.set_set (Rb br rv1)]; exact S5
   with_reducible repeat (first | (apply qzV; simp (disch:=omega) only [zA,bzS10.1] <;> rfl) | apply qzT | apply qzF | apply qzG | apply qzH | ((first | apply qzB | apply qzC | apply qzD); simp (disch:=omega) only [zA,bzS10.1] <;> rfl))
   obtain ⟨rr,e1,e2,S6⟩:=fin z2 e rv2 h5 S5
   exact ⟨rr,e1,mkT z,mkT z2,e,rv2,e2,S6,.inr ⟨by unfold endT endG; simp only [hd,hd2],he⟩⟩
 ·simp only at er S4
  subst er
  have S4 : Stt prog n0 h0 h4 (Cr b5 c0 :: Cr b4 c0 :: (b2,.cells codTL 140 true) :: L.set i (Rb br rv1)) O:=S4
  obtain ⟨q4,_⟩:=c_at S4 1 rfl
  obtain ⟨q5,_⟩:=c_at S4 0 rfl
  with_reducible repeat (first | (apply qzV; simp (disch:=omega) only [zA,bzS10.1,q4,q5] <;> rfl) | apply qzT | apply qzF | apply qzG | apply qzH | ((first | apply qzB | apply qzC | apply qzD); simp (disch:=omega) only [zA,bzS10.1,q4,q5] <;> rfl))
  refine Tl.store' S4 1 rfl sz39 rfl rfl (of_decide_eq_true rfl) fun h5 S5 _=>?_
  have S5 : Stt prog n0 h0 h5 (Cr b5 c0 :: Cr b4 c0 :: (b2,.cells codTL 140 true) :: L.set i (Rb br rv1)) O:=S5
  obtain ⟨p5,_⟩:=c_at S5 0 rfl
  refine Tl.store' S5 0 rfl sz39 rfl rfl (of_decide_eq_true rfl) fun h6 S6 _=>?_
  have S6 : Stt prog n0 h0 h6 (Cr b5 c0 :: Cr b4 c0 :: (b2,.cells codTL 140 true) :: L.set i (Rb br rv1)) O:=S6
  with_reducible refine Tl.chk ?_ ?_
  ·simp only [ld39,q5,p5,Option.map_some,aggC,sameO_some,sameC,Bool.and_self,Bool.not_true,Bool.or_true,Bool.true_and,Bool.false_or]
  obtain ⟨t4,_⟩:=c_at S6 1 rfl
  obtain ⟨t5,_⟩:=c_at S6 0 rfl
  with_reducible repeat (first | (apply qzV; simp (disch:=omega) only [zA,bzS10.1,t4,t5] <;> rfl) | apply qzT | apply qzF | apply qzG | apply qzH | ((first | apply qzB | apply qzC | apply qzD); simp (disch:=omega) only [zA,bzS10.1,t4,t5] <;> rfl))
  exact ⟨_,rfl,c0,c0,e,rv1,rfl,S6.drop.drop.drop,.inr ⟨by unfold endT endG; simp only [hd],he⟩⟩
def endW (r : List Nat) : Option (CellD × CellD × List Nat):=endG rdW mkW r
theorem rdW_sub {r r1 : List Nat} {a : ByteArray} (h : rdW r = some (a,r1)) : r1.length ≤ r.length ∧ ∀ x ∈ r1,x ∈ r:=by
 unfold rdW at h
 split at h
 ·cases h
 ·rename_i n r2 hd
  have hs:=dec_sub r hd
  split at h
  ·cases h
  ·split at h
   ·cases h
   ·simp only [Option.some.injEq,Prod.mk.injEq] at h
    obtain ⟨_,rfl⟩:=h
    exact ⟨by rw [List.length_drop]; omega,fun x hx=>hs.2 x (List.mem_of_mem_drop hx)⟩
/-- 'ends'. -/
theorem endsW_c {k : Nat} (S : Stt prog n0 h0 h L O) (hi : L[i]? = some (Rb br rv)) (R : RV L i rv rest) (hl : rest.length ≤ 2 ^ 30) (hb : ∀ x ∈ rest, x < 256) (hk : rest.length < k) : Tl (eInv env (k + 31) (.method "shadowbook/segment.ends") #[] #[.iface 148 (.agg codWL.toArray), ptr br] h) fun r => ∃ (a b : CellD) (e : Int) (rv' : Value), r.1 = .tuple #[a.v, b.v, .int .i64 e] ∧ Stt prog n0 h0 r.2 (L.set i (Rb br rv')) O ∧
   ((∃ rest',endW rest = some (a,b,rest') ∧ e = 0 ∧ RV (L.set i (Rb br rv')) i rv' rest') ∨ (endW rest = none ∧ e ≠ 0)):=by
 rw [show eInv env (k + 31) (.method "shadowbook/segment.ends") #[] #[.iface 148 (.agg codWL.toArray), ptr br] h = F269 (eInv env (k + 30)) (k + 30) (.agg codWL.toArray) (ptr br) h from
  (by kernel_rfl : _ = eFun env (k + 30) (eInv env (k + 30)) 269 #[.agg codWL.toArray,ptr br] h).trans F269_eq]
 unfold F269
 refine Tl.box' S rfl isW fun b2 h1 S1 _=>?_
 refine Tl.alloc' S1 ze39 rfl fun b4 h2 S2 _=>?_
 refine Tl.alloc' S2 ze39 rfl fun b5 h3 S3 _=>?_
 have S3 : Stt prog n0 h0 h3 (Cr b5 c0 :: Cr b4 c0 :: (b2,.cells codWL 148 true) :: L) O:=S3
 have R3 : RV (Cr b5 c0 :: Cr b4 c0 :: (b2,.cells codWL 148 true) :: L) (i + 3) rv rest:=((R.cons _).cons _).cons _
 have c3:=S3.cell (o:=3) (v:=.func (.func 141) #[] #[]) 2 rfl rfl
 with_reducible repeat (first | (apply qzV; simp (disch:=omega) only [zA,bzS10.1,c3] <;> rfl) | apply qzT | apply qzF | apply qzG | apply qzH | ((first | apply qzB | apply qzC | apply qzD); simp (disch:=omega) only [zA,bzS10.1,c3] <;> rfl))
 rw [callV_fn1]
 refine Tl.bind (f141c (k:=k + 6) S3 (i:=i + 3) (by simpa using hi) R3 hl hb (by omega)) ?_
 rintro ⟨r,h4⟩ (⟨z,r1,rv1,hd,er,S4,R4⟩ | ⟨hd,z,e,rv1,he,er,S4⟩)
 ·simp only at er S4
  subst er
  have hsub:=rdW_sub hd
  have S4 : Stt prog n0 h0 h4 (Cr b5 c0 :: Cr b4 c0 :: (b2,.cells codWL 148 true) :: L.set i (Rb br rv1)) O:=S4
  have R4 : RV (Cr b5 c0 :: Cr b4 c0 :: (b2,.cells codWL 148 true) :: L.set i (Rb br rv1)) (i + 3) rv1 r1:=R4
  have hi4 : (L.set i (Rb br rv1))[i]? = some (Rb br rv1):=List.getElem?_set_self (List.getElem?_eq_some_iff.1 hi).1
  have c4:=S4.cell (o:=3) (v:=.func (.func 141) #[] #[]) 2 rfl rfl
  with_reducible repeat (first | (apply qzV; simp (disch:=omega) only [zA,bzS10.1,c4] <;> rfl) | apply qzT | apply qzF | apply qzG | apply qzH | ((first | apply qzB | apply qzC | apply qzD); simp (disch:=omega) only [zA,bzS10.1,c4] <;> rfl))
  rw [callV_fn1]
  have fin : ∀ (z2 : ByteArray) (e2 : Int) (rv2 : Value) (h5 : AH),Stt prog n0 h0 h5 (Cr b5 c0 :: Cr b4 c0 :: (b2,.cells codWL 148 true) :: L.set i (Rb br rv2)) O →
    Tl (G269_5 (eInv env (k + 30)) (.pointer (some ⟨b2,0,none⟩)) (.pointer (some ⟨b4,0,none⟩)) (.pointer (some ⟨b5,0,none⟩)) (.int .i64 e2) (.string z) (.string z2) h5 fun h=>Ev.bnd (pLoad prog 39 (.pointer (some ⟨b4,0,none⟩)) h) fun q0=>Ev.bnd (pLoad prog 39 (.pointer (some ⟨b5,0,none⟩)) h) fun q1=>some (Value.tuple #[q0,q1,.int .i64 e2],h))
     fun r=>r.1 = .tuple #[(mkW z).v,(mkW z2).v,.int .i64 e2] ∧ Stt prog n0 h0 r.2 (L.set i (Rb br rv2)) O:=by
   intro z2 e2 rv2 h5 S5
   have c5:=S5.cell (o:=1) (v:=.func (.func 139) #[] #[]) 2 rfl rfl
   with_reducible repeat (first | (apply qzV; simp (disch:=omega) only [zA,bzS10.1,c5] <;> rfl) | apply qzT | apply qzF | apply qzG | apply qzH | ((first | apply qzB | apply qzC | apply qzD); simp (disch:=omega) only [zA,bzS10.1,c5] <;> rfl))
   rw [callV_fn1]
   with_reducible refine Tl.call' S5 (f139c (k:=k + 29) z h5) fun h6 S6 _=>?_
   have c6:=S6.cell (o:=1) (v:=.func (.func 139) #[] #[]) 2 rfl rfl
   with_reducible repeat (first | (apply qzV; simp (disch:=omega) only [zA,bzS10.1,c6] <;> rfl) | apply qzT | apply qzF | apply qzG | apply qzH | ((first | apply qzB | apply qzC | apply qzD); simp (disch:=omega) only [zA,bzS10.1,c6] <;> rfl))
   rw [callV_fn1]
   with_reducible refine Tl.call' S6 (f139c (k:=k + 29) z2 h6) fun h7 S7 _=>?_
   refine Tl.store' S7 1 rfl sz39 rfl rfl (of_decide_eq_true rfl) fun h8 S8 _=>?_
   have S8 : Stt prog n0 h0 h8 (Cr b5 c0 :: Cr b4 (mkW z) :: (b2,.cells codWL 148 true) :: L.set i (Rb br rv2)) O:=S8
   refine Tl.store' S8 0 rfl sz39 rfl rfl (of_decide_eq_true rfl) fun h9 S9 _=>?_
   have S9 : Stt prog n0 h0 h9 (Cr b5 (mkW z2) :: Cr b4 (mkW z) :: (b2,.cells codWL 148 true) :: L.set i (Rb br rv2)) O:=S9
   with_reducible refine Tl.chk ?_ ?_
   ·simp only [ld117,c5,c6,sameO_some,sameF,Bool.and_self,Bool.not_true,Bool.or_true,Bool.true_and,Bool.false_or]
   obtain ⟨q4,_⟩:=c_at S9 1 rfl
   obtain ⟨q5,_⟩:=c_at S9 0 rfl
   with_reducible repeat (first | (apply qzV; simp (disch:=omega) only [zA,bzS10.1,q4,q5] <;> rfl) | apply qzT | apply qzF | apply qzG | apply qzH | ((first | apply qzB | apply qzC | apply qzD); simp (disch:=omega) only [zA,bzS10.1,q4,q5] <;> rfl))
   exact ⟨_,rfl,rfl,S9.drop.drop.drop⟩
  refine Tl.bind (f141c (k:=k + 6) S4 (i:=i + 3) (by simpa using hi4) R4 (by omega) (fun x hx=>hb x (hsub.2 x hx)) (by omega)) ?_
  rintro ⟨r,h5⟩ (⟨z2,r2,rv2,hd2,er,S5,R5⟩ | ⟨hd2,z2,e,rv2,he,er,S5⟩)
  ·simp only at er S5
   subst er
   have S5 : Stt prog n0 h0 h5 (Cr b5 c0 :: Cr b4 c0 :: (b2,.cells codWL 148 true) :: L.set i (Rb br rv2)) O:=by rw [← List.set_set (Rb br rv1)]; exact S5
   have R5 : RV (Cr b5 c0 :: Cr b4 c0 :: (b2,.cells codWL 148 true) :: L.set i (Rb br rv2)) (i + 3) rv2 r2:=by rw [← List.set_set (Rb br rv1)]; exact R5
   with_reducible repeat (first | (apply qzV; simp (disch:=omega) only [zA,bzS10.1] <;> rfl) | apply qzT | apply qzF | apply qzG | apply qzH | ((first | apply qzB | apply qzC | apply qzD); simp (disch:=omega) only [zA,bzS10.1] <;> rfl))
   obtain ⟨rr,e1,e2,S6⟩:=fin z2 0 rv2 h5 S5
   have R6:=((R5.tail (by rw [sz39]; decide)).tail (by rw [sz39]; decide)).tail (by rw [sz148]; decide)
   exact ⟨rr,e1,mkW z,mkW z2,0,rv2,e2,S6,.inl ⟨r2,by unfold endW endG; simp only [hd,hd2],rfl,R6⟩⟩
  ·simp only at er S5
   subst er
   have S5 : Stt prog n0 h0 h5 (Cr b5 c0 :: Cr b4 c0 :: (b2,.cells codWL 148 true) :: L.set i (Rb br rv2)) O:=by rw [← List.set_set (Rb br rv1)]; exact S5
   with_reducible repeat (first | (apply qzV; simp (disch:=omega) only [zA,bzS10.1] <;> rfl) | apply qzT | apply qzF | apply qzG | apply qzH | ((first | apply qzB | apply qzC | apply qzD); simp (disch:=omega) only [zA,bzS10.1] <;> rfl))
   obtain ⟨rr,e1,e2,S6⟩:=fin z2 e rv2 h5 S5
   exact ⟨rr,e1,mkW z,mkW z2,e,rv2,e2,S6,.inr ⟨by unfold endW endG; simp only [hd,hd2],he⟩⟩
 ·simp only at er S4
  subst er
  have S4 : Stt prog n0 h0 h4 (Cr b5 c0 :: Cr b4 c0 :: (b2,.cells codWL 148 true) :: L.set i (Rb br rv1)) O:=S4
  obtain ⟨q4,_⟩:=c_at S4 1 rfl
  obtain ⟨q5,_⟩:=c_at S4 0 rfl
  with_reducible repeat (first | (apply qzV; simp (disch:=omega) only [zA,bzS10.1,q4,q5] <;> rfl) | apply qzT | apply qzF | apply qzG | apply qzH | ((first | apply qzB | apply qzC | apply qzD); simp (disch:=omega) only [zA,bzS10.1,q4,q5] <;> rfl))
  refine Tl.store' S4 1 rfl sz39 rfl rfl (of_decide_eq_true rfl) fun h5 S5 _=>?_
  have S5 : Stt prog n0 h0 h5 (Cr b5 c0 :: Cr b4 c0 :: (b2,.cells codWL 148 true) :: L.set i (Rb br rv1)) O:=S5
  obtain ⟨p5,_⟩:=c_at S5 0 rfl
  refine Tl.store' S5 0 rfl sz39 rfl rfl (of_decide_eq_true rfl) fun h6 S6 _=>?_
  have S6 : Stt prog n0 h0 h6 (Cr b5 c0 :: Cr b4 c0 :: (b2,.cells codWL 148 true) :: L.set i (Rb br rv1)) O:=S6
  with_reducible refine Tl.chk ?_ ?_
  ·simp only [ld39,q5,p5,Option.map_some,aggC,sameO_some,sameC,Bool.and_self,Bool.not_true,Bool.or_true,Bool.true_and,Bool.false_or]
  obtain ⟨t4,_⟩:=c_at S6 1 rfl
  obtain ⟨t5,_⟩:=c_at S6 0 rfl
  with_reducible repeat (first | (apply qzV; simp (disch:=omega) only [zA,bzS10.1,t4,t5] <;> rfl) | apply qzT | apply qzF | apply qzG | apply qzH | ((first | apply qzB | apply qzC | apply qzD); simp (disch:=omega) only [zA,bzS10.1,t4,t5] <;> rfl))
  exact ⟨_,rfl,c0,c0,e,rv1,rfl,S6.drop.drop.drop,.inr ⟨by unfold endW endG; simp only [hd],he⟩⟩
end
end Go.Proofs.YtlbmlncdjkdoaaaGreat.Sh
/- Words of texts. -/
set_option linter.unusedVariables false
set_option linter.unusedSimpArgs false
set_option maxRecDepth 100000
namespace Go.Proofs.YtlbmlncdjkdoaaaGreat.Sh
open Go Go.RowKit Go.Proofs.Ev
open Tryz (prog)
def bzXb:=PLift.up (ai @ld3 (ai @ld9 (ai @ld27 (@Nat.add_zero))))
theorem mapTS : mapT prog 238 = some (9,239):=by kernel_rfl
theorem bd_unit : pBuild prog 239 #[] = some (.agg #[]):=by kernel_rfl
section
variable {β : Type} {Q : β→Prop} {n0 : Nat} {h0 h : AH} {L : List (Nat × AO)} {O : List OS}
theorem Tl.insS {m : Nat} {ks : List ByteArray} {x : ByteArray} {K : Value × AH→Option β} (S : Stt prog n0 h0 h ((m,.map (entsS (.agg #[]) 0 ks) ks.length) :: L) O)
  (hk : ∀ h',Stt prog n0 h0 h' ((m,.map (entsS (.agg #[]) 0 (insT ks x)) (insT ks x).length) :: L) O→Tl (K (unk,h')) Q) : Tl (bnd (kSt (pUpdate prog 238 (.map (some m)) (.string x) (.agg #[]) h)) K) Q:=by
 unfold Ev.insT at hk
 by_cases q : x ∈ ks
 ·rw [if_pos q] at hk
  obtain ⟨j,_,h2,h3⟩:=findS_yes (z:=.agg #[]) x ks 0 0 q
  have e : pUpdate prog 238 (.map (some m)) (.string x) (.agg #[]) h = some (h.set m (.map (entsS (.agg #[]) 0 ks) ks.length)):=by
   have hkn : kn (.agg #[]) = true:=rfl
   unfold pUpdate
   simp only [mapTS,u9,S.sta.mem.at_ (i:=0) rfl,keyOk,hkn,Bool.and_self,if_true,h2]
   rw [Nat.sub_zero] at h3
   rw [h3]
  rw [e]
  exact hk _ (S.set 0 rfl _)
 ·rw [if_neg q] at hk
  refine Tl.upd S 0 rfl mapTS u9 rfl rfl (findS_no x ks 0 0 q) fun h' S'=>hk h' ?_
  have e:=entsS_snoc (z:=.agg #[]) x ks 0
  rw [Nat.zero_add] at e
  rw [e,List.length_append]
  exact S'
theorem f205_loop {inv : Inv} {k : Nat} {m : Nat} {v : Value} {l : List ByteArray} (A : Strs h0 v l) (hl : l.length ≤ 2 ^ 40) {ke0 : Value→Value→Value→Value→Value→AH→Option β} (n : Nat) :
  ∀ {i j : Nat} {ks : List ByteArray} {h : AH},i + n = l.length→n < j→Stt prog h0.n h0 h ((m,.map (entsS (.agg #[]) 0 ks) ks.length) :: L) O →
   (∀ y1 y2 y3 y4 h',Stt prog h0.n h0 h' ((m,.map (entsS (.agg #[]) 0 ((l.drop i).foldl insT ks)) ((l.drop i).foldl insT ks).length) :: L) O→Tl (ke0 (.map (some m)) y1 y2 y3 y4 h') Q) →
   Tl (F205_lrlrr inv k j (.map (some m)) v (.int .i64 l.length) (.int .i64 i) h ke0) Q:=by
 induction n with
 | zero =>
  intro i j ks h hi hj S hk
  obtain ⟨j,rfl⟩ : ∃ q,j = q + 1:=⟨j - 1,by omega⟩
  simp only [F205_lrlrr]
  with_reducible repeat (first | (apply qzV; simp (disch:=omega) only [zA,bzXb.1] <;> rfl) | apply qzT | apply qzF | (apply qzB; simp (disch:=omega) only [zA,bzXb.1] <;> rfl))
  rw [List.drop_eq_nil_of_le (by omega)] at hk
  exact hk _ _ _ _ _ S
 | succ n ih =>
  intro i j ks h hi hj S hk
  obtain ⟨j,rfl⟩ : ∃ q,j = q + 1:=⟨j - 1,by omega⟩
  obtain ⟨x,ex⟩ : ∃ x,l[i]? = some x:=⟨_,List.getElem?_eq_getElem (by omega)⟩
  obtain ⟨b,o,hp,hc⟩:=A.at_ (k:=.i64) ex
  have hc:=hc h S.grow
  have e : (i : Int) + 1 = ((i + 1 : Nat) : Int):=by omega
  have hd : l.drop i = x :: l.drop (i + 1):=by rw [List.drop_eq_getElem?_toList_append,ex]; rfl
  rw [hd,List.foldl_cons] at hk
  simp only [F205_lrlrr]
  with_reducible repeat (first | (apply qzV; simp (disch:=omega) only [zA,bzXb.1,hp,hc,bd_unit] <;> rfl) | apply qzT | apply qzF | (apply qzB; simp (disch:=omega) only [zA,bzXb.1,hp,hc,bd_unit] <;> rfl))
  refine Tl.insS S fun h' S'=>?_
  with_reducible repeat (first | (apply qzV; simp (disch:=omega) only [zA,bzXb.1] <;> rfl) | apply qzT | apply qzF | (apply qzB; simp (disch:=omega) only [zA,bzXb.1] <;> rfl))
  rw [e]
  exact ih (by omega) (by omega) S' hk
/-- Texts, each once, rising: in memory of their own. -/
theorem f205c {k : Nat} {v : Value} {l : List ByteArray} (S : Stt prog n0 h0 h L O) (A : Strs h v l) (hs : ∀ x ∈ l,x.size ≤ maxLen) (hl : l.length ≤ 2 ^ 40) (hk : l.length < k + 2) :
  Tl (eInv env (k + 3) (.func 205) #[] #[v] h) fun r=>Stt prog n0 h0 r.2 L ((r.1,1,srows (wordsB l)) :: O):=by
 rw [F205_call]
 unfold F205
 have hv : ∀ h',pLen prog #[27] v h' = some (.int .i64 l.length):=fun h'=>A.len
 refine Tl.mkmap (Stt.init h : Stt prog h.n h h [] []) mapTS fun m h1 S1 g1=>?_
 with_reducible repeat (first | (apply qzV; simp (disch:=omega) only [zA,bzXb.1,hv] <;> rfl) | apply qzT | apply qzF | (apply qzB; simp (disch:=omega) only [zA,bzXb.1,hv] <;> rfl))
 refine f205_loop (h0:=h) A hl l.length (i:=0) (ks:=[]) (by omega) (by omega) S1 fun y1 y2 y3 y4 h2 S2=>?_
 rw [List.drop_zero] at S2
 refine Tl.bind (R:=fun r=>∃ b,r.1 = .func (.func 224) #[] #[.pointer (some ⟨b,0,none⟩)] ∧ Stt prog h.n h r.2 ((b,.cells [.map (some m)] 238 true) :: (m,.map (entsS (.agg #[]) 0 (l.foldl insT [])) (l.foldl insT []).length) :: []) []) ?_ ?_
 ·rw [F218_call]
  unfold F218
  refine Tl.box' S2 rfl (by kernel_rfl) fun b h3 S3 _=>?_
  with_reducible repeat (first | (apply qzV; simp (disch:=omega) only [zA,bzXb.1,pMakeFunc,kn] <;> rfl) | apply qzT | apply qzF | (apply qzB; simp (disch:=omega) only [zA,bzXb.1,pMakeFunc,kn] <;> rfl))
  exact ⟨_,rfl,b,rfl,S3⟩
 rintro ⟨fv,h3⟩ ⟨b,rfl,S3⟩
 simp only at S3
 have hb : h3.get b = some (.cells [.map (some m)] 238 true):=S3.sta.mem.at_ (i:=0) rfl
 have hm : h3.get m = some (.map (entsS (.agg #[]) 0 (l.foldl insT [])) (l.foldl insT []).length):=S3.sta.mem.at_ (i:=1) rfl
 have hnd:=insTs_nodup l [] (by simp)
 have hlen:=insTs_len l []
 have hsz : ∀ s ∈ l.foldl insT [],s.size ≤ maxLen:=fun s q=>hs s (by have:=(insTs_mem (y:=s) l []).1 q; simpa using this)
 have hfine:=entsS_fine (z:=.agg #[]) hnd hsz (by simp at hlen; omega)
 have ek : keysO [224] 9 #[.func (.func 224) #[] #[.pointer (some ⟨b,0,none⟩)]] h3 = if (l.foldl insT []).isEmpty then some (.slice none 0 0,h3) else some (.slice (some ⟨h3.n,0,none⟩) (l.foldl insT []).length (l.foldl insT []).length,h3.alloc (.cells ((sortedT (l.foldl insT [])).map encStr) 9 true)):=by
  unfold keysO
  simp only [hb,hm,entsS_texts,Option.bind_some,hfine]
  exact if_pos (by decide)
 have ec : eInv env (k + 2) (.func 217) #[] #[.func (.func 224) #[] #[.pointer (some ⟨b,0,none⟩)]] h3 = _:=keys_call.trans ek
 have Sg : Stt prog n0 h0 h3 L O:=S.call S3.grow
 by_cases q : (l.foldl insT []) = []
 ·have e1 : (l.foldl insT []).isEmpty = true:=by rw [q]; rfl
  rw [e1,if_pos rfl] at ec
  with_reducible repeat (first | (apply qzV; simp (disch:=omega) only [zA,bzXb.1,ec] <;> rfl) | apply qzT | apply qzF | (apply qzB; simp (disch:=omega) only [zA,bzXb.1,ec] <;> rfl))
  have e2 : wordsB l = []:=by unfold wordsB; rw [q]; rfl
  refine ⟨_,rfl,?_⟩
  rw [e2]
  exact Sg.nil 1
 ·have e1 : (l.foldl insT []).isEmpty = false:=by simpa using q
  rw [e1,if_neg (by simp)] at ec
  with_reducible repeat (first | (apply qzV; simp (disch:=omega) only [zA,bzXb.1,ec] <;> rfl) | apply qzT | apply qzF | (apply qzB; simp (disch:=omega) only [zA,bzXb.1,ec] <;> rfl))
  refine ⟨_,rfl,?_⟩
  have el : (l.foldl insT []).length = (srows (wordsB l)).length:=by rw [srows_len,(wordsB_perm l).length_eq]
  have ew : (sortedT (l.foldl insT [])).map encStr = (srows (wordsB l)).flatten:=by
   rw [srows_flat]
   unfold wordsB
   rw [List.map_map]
   rfl
  have Sa:=Sg.alloc (.cells ((srows (wordsB l)).flatten) 9 true)
  rw [ew,el]
  exact Sa.absorb (srows_wide _) sz9
end
end Go.Proofs.YtlbmlncdjkdoaaaGreat.Sh
/- Texts by their words' numbers. -/
set_option linter.unusedVariables false
set_option linter.unusedSimpArgs false
set_option maxRecDepth 100000
namespace Go.Proofs.YtlbmlncdjkdoaaaGreat.Sh
open Go Go.RowKit Go.Proofs.Ev
open Tryz (prog)
def bzXd:=PLift.up (ai @ld3 (ai @ld9 (ai @ld27 (ai @ld93 (ai @ld121 (ai (fun a h=>conv_int (a:=a) (h:=h) u3 u121) (ai (fun a h=>conv_int (a:=a) (h:=h) u3 u5) (ai (fun a h=>conv_int (a:=a) (h:=h) u3 u101) (ai (fun a h=>conv_int (a:=a) (h:=h) u101 u3) (ai @Nat.add_zero (ai @ex2_0 (@ex2_1))))))))))))
/-! ### A word's number -/
theorem str_lt {x y : Operand} {a b : ByteArray} : pBin prog .lss 9 x y (.string a) (.string b) = some (.bool (decide (ltB a b))):=by
 have h1 : pBin prog .lss 9 x y (.string a) (.string b) = some (.bool (Op.bytesLess a.toList b.toList)):=rfl
 rw [h1,ByteArray.toList_eq,ByteArray.toList_eq,bytesLess_eq]
 rfl
theorem f225c {k : Nat} (s : ByteArray) (h : AH) : eInv env (k + 1) (.func 225) #[] #[.string s] h = some (.bool false,h):=by
 rw [F225_call]
 unfold F225
 rw [ne_s]
 simp
theorem f219c {k : Nat} (a b : ByteArray) (h : AH) : eInv env (k + 2) (.func 219) #[] #[.string a,.string b] h = some (.bool (decide (ltB a b)),h):=by
 have T : Tl (F219 (eInv env (k + 1)) (k + 1) (.string a) (.string b) h) fun r=>r = (.bool (decide (ltB a b)),h):=by
  unfold F219
  simp only [G219_1]
  have h1:=f225c (k:=k) a h
  have h2 : ∀ x y,pBin prog .lss 9 x y (.string a) (.string b) = some (.bool (decide (ltB a b))):=fun _ _=>str_lt
  with_reducible repeat (first | (apply qzV; simp (disch:=omega) only [zA,bzXd.1,h1,h2] <;> rfl) | apply qzT | apply qzF | apply qzG | ((first | apply qzB | apply qzC); simp (disch:=omega) only [zA,bzXd.1,h1,h2] <;> rfl))
  exact ⟨_,rfl,rfl⟩
 obtain ⟨r,h1,h2⟩:=T
 rw [F219_call,h1,h2]
theorem f206_loop {β : Type} {k : Nat} {Q : β→Prop} {h : AH} {wv x6 : Value} {w : List ByteArray} {s : ByteArray} {p : Nat} (W : Strs h wv w) (hw : w.length ≤ 2 ^ 40) (hr : w.Pairwise ltB) (hp : w[p]? = some s) {ke0 : Value→Value→Value→Value→Value→Value→AH→Option β} (hk : ∀ y1 y2,Tl (ke0 wv (.string s) x6 (.int .i64 p) y1 y2 h) Q) (n : Nat) :
  ∀ {lo hi j : Nat},hi ≤ lo + n→n < j→lo ≤ p→p ≤ hi→hi ≤ w.length→Tl (F206_llrrr (eInv env (k + 2)) (k + 2) j wv (.string s) x6 (.int .i64 lo) (.int .i64 hi) h ke0) Q:=by
 induction n with
 | zero =>
  intro lo hi j hn hj h1 h2 h3
  obtain ⟨j,rfl⟩ : ∃ q,j = q + 1:=⟨j - 1,by omega⟩
  obtain rfl : lo = p:=by omega
  simp only [F206_llrrr]
  with_reducible repeat (first | (apply qzV; simp (disch:=omega) only [zA,bzXd.1] <;> rfl) | apply qzT | apply qzF | apply qzG | ((first | apply qzB | apply qzC); simp (disch:=omega) only [zA,bzXd.1] <;> rfl))
  exact hk _ _
 | succ n ih =>
  intro lo hi j hn hj h1 h2 h3
  obtain ⟨j,rfl⟩ : ∃ q,j = q + 1:=⟨j - 1,by omega⟩
  by_cases q : lo < hi
  ·obtain ⟨m,hm⟩ : ∃ m,m = (lo + hi) / 2:=⟨_,rfl⟩
   have hmlt : m < w.length:=by omega
   obtain ⟨x,ex⟩ : ∃ x,w[m]? = some x:=⟨_,List.getElem?_eq_getElem hmlt⟩
   obtain ⟨b,o,hpp,hc⟩:=W.at_ (k:=.i64) ex
   have hc:=hc h (Grow.refl _)
   have sh : ∀ t a b,pBin prog Go.BinOp.shr t a b (.int .u64 ((lo : Int) + (hi : Int))) (.int .u64 1) = some (.int .u64 (m : Int)):=fun t a b=>by
    rw [shr_nn (by decide)]
    have h2 : min (1 : Int).toNat IntKind.u64.bits = 1:=by decide
    rw [h2,Int.fdiv_eq_ediv_of_nonneg _ (by decide)]
    have : (2 : Int) ^ 1 = 2:=by decide
    rw [this]
    congr 2
    omega
   have hl:=f219c (k:=k) x s h
   have e : (m : Int) + 1 = ((m + 1 : Nat) : Int):=by omega
   have hps:=(List.getElem?_eq_some_iff.1 hp)
   have hms:=(List.getElem?_eq_some_iff.1 ex)
   obtain ⟨lp,es⟩:=hps
   obtain ⟨lm,exx⟩:=hms
   simp only [F206_llrrr]
   by_cases q2 : m < p
   ·have hlt : ltB x s:=by rw [← es,← exx]; exact List.pairwise_iff_getElem.1 hr _ _ lm lp q2
    rw [decide_eq_true hlt] at hl
    with_reducible repeat (first | (apply qzV; simp (disch:=omega) only [zA,bzXd.1,sh,hpp,hc,hl] <;> rfl) | apply qzT | apply qzF | apply qzG | ((first | apply qzB | apply qzC); simp (disch:=omega) only [zA,bzXd.1,sh,hpp,hc,hl] <;> rfl))
    rw [e]
    exact ih (by omega) (by omega) (by omega) h2 h3
   ·have hnlt : ¬ ltB x s:=by
     by_cases q3 : m = p
     ·subst q3
      rw [hp] at ex
      cases ex
      exact ltB_irrefl _
     ·have : ltB s x:=by rw [← es,← exx]; exact List.pairwise_iff_getElem.1 hr _ _ lp lm (by omega)
      exact fun h=>ltB_irrefl _ (ltB_trans h this)
    rw [decide_eq_false hnlt] at hl
    with_reducible repeat (first | (apply qzV; simp (disch:=omega) only [zA,bzXd.1,sh,hpp,hc,hl] <;> rfl) | apply qzT | apply qzF | apply qzG | ((first | apply qzB | apply qzC); simp (disch:=omega) only [zA,bzXd.1,sh,hpp,hc,hl] <;> rfl))
    exact ih (by omega) (by omega) h1 (by omega) (by omega)
  ·obtain rfl : lo = p:=by omega
   simp only [F206_llrrr]
   with_reducible repeat (first | (apply qzV; simp (disch:=omega) only [zA,bzXd.1] <;> rfl) | apply qzT | apply qzF | apply qzG | ((first | apply qzB | apply qzC); simp (disch:=omega) only [zA,bzXd.1] <;> rfl))
   exact hk _ _
theorem f206c {k : Nat} {h : AH} {wv : Value} {w : List ByteArray} {s : ByteArray} {p : Nat} (W : Strs h wv w) (hw : w.length ≤ 2 ^ 40) (hr : w.Pairwise ltB) (hp : w[p]? = some s) (hk : w.length < k + 2) :
  eInv env (k + 3) (.func 206) #[] #[wv,.string s] h = some (.tuple #[.int .i64 p,.bool true],h):=by
 have hlt:=(List.getElem?_eq_some_iff.1 hp).1
 have T : Tl (F206 (eInv env (k + 2)) (k + 2) wv (.string s) h) fun r=>r = (.tuple #[.int .i64 p,.bool true],h):=by
  unfold F206
  have hv : ∀ h',pLen prog #[27] wv h' = some (.int .i64 w.length):=fun h'=>W.len
  with_reducible repeat (first | (apply qzV; simp (disch:=omega) only [zA,bzXd.1,hv] <;> rfl) | apply qzT | apply qzF | apply qzG | ((first | apply qzB | apply qzC); simp (disch:=omega) only [zA,bzXd.1,hv] <;> rfl))
  refine f206_loop (k:=k) W hw hr hp (fun y1 y2=>?_) w.length (lo:=0) (by omega) (by omega) (by omega) (by omega) (by omega)
  obtain ⟨b,o,hpp,hc⟩:=W.at_ (k:=.i64) hp
  have hc:=hc h (Grow.refl _)
  have hq : ∀ ox oy,pBin prog .eql 9 ox oy (.string s) (.string s) = some (.bool true):=fun ox oy=>by rw [eq_s]; simp
  simp only [G206_8]
  with_reducible repeat (first | (apply qzV; simp (disch:=omega) only [zA,bzXd.1,hpp,hc,hq] <;> rfl) | apply qzT | apply qzF | apply qzG | ((first | apply qzB | apply qzC); simp (disch:=omega) only [zA,bzXd.1,hpp,hc,hq] <;> rfl))
  exact ⟨_,rfl,rfl⟩
 obtain ⟨r,h1,h2⟩:=T
 rw [F206_call,h1,h2]
/-! ### 'Dict' -/
def posS (w : List ByteArray) (s : ByteArray) : Nat:=w.findIdx fun x=>decide (x = s)
theorem posS_at {w : List ByteArray} {s : ByteArray} (h : s ∈ w) : w[posS w s]? = some s:=by
 have h1 : w.findIdx (fun x=>decide (x = s)) < w.length:=List.findIdx_lt_length_of_exists ⟨s,h,by simp⟩
 have h2:=List.findIdx_getElem (p:=fun x=>decide (x = s)) (w:=h1)
 simp only [decide_eq_true_eq] at h2
 unfold posS
 rw [List.getElem?_eq_getElem h1,h2]
theorem posS_lt {w : List ByteArray} {s : ByteArray} (h : s ∈ w) : posS w s < w.length:=(List.getElem?_eq_some_iff.1 (posS_at h)).1
def atW (l : List ByteArray) : List Nat:=l.map (posS (wordsB l))
def widW (l : List ByteArray) : Nat:=Pk.widthN (atW l)
def dictT (l : List ByteArray) : List Nat:=[2] ++ pvarN l.length ++ pvarN (wordsB l).length ++ (wordsB l).flatMap textP ++ [widW l] ++ putN (widW l) (atW l)
def dictG (l : List ByteArray) : List Nat:=if mayT l then dictT l else []
theorem atW_lt {l : List ByteArray} : ∀ x ∈ atW l,x < l.length:=fun x hx=>by
 obtain ⟨s,hs,rfl⟩:=List.mem_map.1 hx
 have:=posS_lt (wordsB_mem.2 hs)
 have:=wordsB_len l
 omega
section
variable {β : Type} {Q : β→Prop} {n0 : Nat} {h0 h : AH} {L : List (Nat × AO)} {O : List OS}
theorem f179_l1 {k : Nat} {wv x0 x5 : Value} {w : List ByteArray} (hl : w.length ≤ 4096) (hs : ∀ x ∈ w,x.size ≤ 65536) {ke0 : Value→Value→Value→Value→Value→Value→Value→AH→Option β} (n : Nat) :
  ∀ {i j : Nat} {h : AH} {ov : Value} {out : List Nat},i + n = w.length→n < j→out.length ≤ 40 + i * 65546→Stt prog n0 h0 h L ((ov,1,u8rows out) :: (wv,1,srows w) :: O) →
   (∀ h' y y1 y2,Stt prog n0 h0 h' L ((y,1,u8rows (out ++ (w.drop i).flatMap textP)) :: (wv,1,srows w) :: O)→(out ++ (w.drop i).flatMap textP).length ≤ 40 + w.length * 65546→Tl (ke0 x0 x5 y wv (.int .i64 w.length) y1 y2 h') Q) →
   Tl (F179_lrlrrrr (eInv env (k + 21)) (k + 21) j x0 x5 ov wv (.int .i64 w.length) (.int .i64 i) h ke0) Q:=by
 induction n with
 | zero =>
  intro i j h ov out hi hj ho S hk
  obtain ⟨j,rfl⟩ : ∃ q,j = q + 1:=⟨j - 1,by omega⟩
  simp only [F179_lrlrrrr]
  with_reducible repeat (first | (apply qzV; simp (disch:=omega) only [zA,bzXd.1] <;> rfl) | apply qzT | apply qzF | (apply qzB; simp (disch:=omega) only [zA,bzXd.1] <;> rfl))
  obtain rfl : i = w.length:=by omega
  rw [List.drop_eq_nil_of_le (Nat.le_refl _)] at hk
  simp only [List.flatMap_nil,List.append_nil] at hk
  exact hk _ _ _ _ S ho
 | succ n ih =>
  intro i j h ov out hi hj ho S hk
  obtain ⟨j,rfl⟩ : ∃ q,j = q + 1:=⟨j - 1,by omega⟩
  obtain ⟨x,ex⟩ : ∃ x,w[i]? = some x:=⟨_,List.getElem?_eq_getElem (by omega)⟩
  obtain ⟨b,o,hp,hc⟩:=(Stt.strs S 1 rfl).at_ (k:=.i64) ex
  have hc:=hc h (Grow.refl _)
  have hx:=hs x (List.mem_of_getElem? ex)
  have hd : w.drop i = x :: w.drop (i + 1):=by rw [List.drop_eq_getElem?_toList_append,ex]; rfl
  have e : (i : Int) + 1 = ((i + 1 : Nat) : Int):=by omega
  simp only [F179_lrlrrrr]
  with_reducible repeat (first | (apply qzV; simp (disch:=omega) only [zA,bzXd.1,hp,hc] <;> rfl) | apply qzT | apply qzF | (apply qzB; simp (disch:=omega) only [zA,bzXd.1,hp,hc] <;> rfl))
  have him : i * 65546 ≤ 4096 * 65546:=Nat.mul_le_mul_right _ (by omega)
  refine Tl.bind (f204c (k:=k) (s:=x) (by omega) (by omega) S) ?_
  rintro ⟨v',h'⟩ S'
  simp only at S'
  have ht:=textP_len x (by omega)
  with_reducible repeat (first | (apply qzV; simp (disch:=omega) only [zA,bzXd.1] <;> rfl) | apply qzT | apply qzF | (apply qzB; simp (disch:=omega) only [zA,bzXd.1] <;> rfl))
  rw [e]
  rw [hd,List.flatMap_cons,← List.append_assoc] at hk
  exact ih (out:=out ++ textP x) (by omega) (by omega) (by rw [List.length_append,Nat.succ_mul]; omega) S' hk
theorem f179_l2 {k : Nat} {v wv x6 : Value} {l w : List ByteArray} {O : List OS} {out : List (List Value)} (A : Strs h0 v l) (hl : l.length ≤ 4096) (hw : w.length ≤ 4096) (hr : w.Pairwise ltB) (hm : ∀ x ∈ l,x ∈ w) (hk' : w.length < k + 2) {ke0 : Value→Value→Value→Value→Value→Value→Value→AH→Option β} (n : Nat) :
  ∀ {i j : Nat} {h : AH} {ov : Value} {done : List Nat},i + n = l.length→n < j→done.length = i→Stt prog h0.n h0 h L ((ov,1,u64rows done) :: (x6,1,out) :: (wv,1,srows w) :: O) →
   (∀ h' y y1 y2,Stt prog h0.n h0 h' L ((y,1,u64rows (done ++ (l.drop i).map (posS w))) :: (x6,1,out) :: (wv,1,srows w) :: O)→Tl (ke0 wv x6 y v (.int .i64 l.length) y1 y2 h') Q) →
   Tl (F179_lrlrrrrrr (eInv env (k + 3)) (k + 3) j wv x6 ov v (.int .i64 l.length) (.int .i64 i) h ke0) Q:=by
 induction n with
 | zero =>
  intro i j h ov done hi hj hd S hk
  obtain ⟨j,rfl⟩ : ∃ q,j = q + 1:=⟨j - 1,by omega⟩
  simp only [F179_lrlrrrrrr]
  with_reducible repeat (first | (apply qzV; simp (disch:=omega) only [zA,bzXd.1] <;> rfl) | apply qzT | apply qzF | (apply qzB; simp (disch:=omega) only [zA,bzXd.1] <;> rfl))
  rw [List.drop_eq_nil_of_le (by omega)] at hk
  exact hk _ _ _ _ (by simpa using S)
 | succ n ih =>
  intro i j h ov done hi hj hd S hk
  obtain ⟨j,rfl⟩ : ∃ q,j = q + 1:=⟨j - 1,by omega⟩
  obtain ⟨x,ex⟩ : ∃ x,l[i]? = some x:=⟨_,List.getElem?_eq_getElem (by omega)⟩
  obtain ⟨b,o,hp,hc⟩:=A.at_ (k:=.i64) ex
  have hc:=hc h S.grow
  have hx:=hm x (List.mem_of_getElem? ex)
  have hbs:=f206c (k:=k) (Stt.strs S 2 rfl) (by omega) hr (posS_at hx) hk'
  have hlt:=posS_lt hx
  have hdr : l.drop i = x :: l.drop (i + 1):=by rw [List.drop_eq_getElem?_toList_append,ex]; rfl
  have e : (i : Int) + 1 = ((i + 1 : Nat) : Int):=by omega
  simp only [F179_lrlrrrrrr]
  with_reducible repeat (first | (apply qzV; simp (disch:=omega) only [zA,bzXd.1,hp,hc,hbs] <;> rfl) | apply qzT | apply qzF | (apply qzB; simp (disch:=omega) only [zA,bzXd.1,hp,hc,hbs] <;> rfl))
  refine Tl.push S 0 rfl app124 (bs124 _ _) rfl rfl (by rw [u64rows_len]; omega) fun v' h' S'=>?_
  with_reducible repeat (first | (apply qzV; simp (disch:=omega) only [zA,bzXd.1] <;> rfl) | apply qzT | apply qzF | (apply qzB; simp (disch:=omega) only [zA,bzXd.1] <;> rfl))
  rw [e]
  rw [hdr,List.map_cons] at hk
  refine ih (done:=done ++ [posS w x]) (by omega) (by omega) (by simp [hd]) (by simpa [u64rows,u64v] using S') fun h' y y1 y2 S''=>hk h' y y1 y2 ?_
  simpa using S''
theorem f179c {k : Nat} {h : AH} {v : Value} {l : List ByteArray} (A : Strs h v l) (hl : l.length ≤ 9223372036854775807) (hk : 4096 < k) :
  Tl (eInv env (k + 400) (.func 179) #[] #[v] h) fun r=>∃ v',r.1 = .tuple #[v',.int .i64 (checkT l)] ∧ Stt prog h.n h r.2 [] [(v',1,u8rows (dictG l))]:=by
 rw [F179_call]
 unfold F179
 have hc:=f203c (k:=k + 395) A hl (by omega)
 have ll : ∀ h',pLen prog #[27] v h' = some (.int .i64 l.length):=fun h'=>A.len
 unfold checkT dictG at *
 cases q : mayT l
 ·rw [q] at hc
  simp only [Bool.false_eq_true,if_false] at hc ⊢
  with_reducible repeat (first | (apply qzV; simp (disch:=omega) only [zA,bzXd.1,hc] <;> rfl) | apply qzT | apply qzF | (apply qzB; simp (disch:=omega) only [zA,bzXd.1,hc] <;> rfl))
  exact ⟨_,rfl,_,rfl,(Stt.init h).nil 1⟩
 rw [q] at hc
 simp only [if_true] at hc ⊢
 obtain ⟨q1,q2⟩:=mayT_spec.1 q
 have hwl:=wordsB_len l
 have hsm : ∀ x ∈ l,x.size ≤ maxLen:=fun x hx=>by have:=q2 x hx; unfold maxLen; omega
 have ha:=atW_lt (l:=l)
 have hal : (atW l).length = l.length:=List.length_map ..
 have ha64 : ∀ x ∈ atW l,x < 18446744073709551616:=fun x hx=>by have:=ha x hx; omega
 have hW:=Pk.width64 ha64
 have hE:=Pk.putE_of (l:=atW l) (W:=widW l) (by omega) (by unfold widW; exact hW) (Nat.le_refl _)
 with_reducible repeat (first | (apply qzV; simp (disch:=omega) only [zA,bzXd.1,hc] <;> rfl) | apply qzT | apply qzF | (apply qzB; simp (disch:=omega) only [zA,bzXd.1,hc] <;> rfl))
 refine Tl.bind (f205c (k:=k + 396) (Stt.init h) A hsm (by omega) (by omega)) ?_
 rintro ⟨wv,h1⟩ S1
 simp only at S1
 with_reducible repeat (first | (apply qzV; simp (disch:=omega) only [zA,bzXd.1,bs93,ll] <;> rfl) | apply qzT | apply qzF | (apply qzB; simp (disch:=omega) only [zA,bzXd.1,bs93,ll] <;> rfl))
 have S1a:=(show Stt prog h.n h (h1.alloc (.cells (u8rows [2]).flatten 5 true)) [(h1.n,.cells (u8rows [2]).flatten 5 true)] [(wv,1,srows (wordsB l))] from S1.alloc _).absorb (n:=1) (u8v_wide [2]) sz5
 refine Tl.bind (f86c (k:=k + 379) l.length (by omega) (by simp) S1a) ?_
 rintro ⟨o1,h2⟩ S2
 simp only at S2
 have lw : ∀ h',pLen prog #[27] wv h' = some (.int .i64 (wordsB l).length):=fun h'=>(Stt.strs S2 1 rfl).len
 have p1:=pvarN_le10 (n:=l.length) (by omega)
 have p2:=pvarN_le10 (n:=(wordsB l).length) (by omega)
 with_reducible repeat (first | (apply qzV; simp (disch:=omega) only [zA,bzXd.1,lw] <;> rfl) | apply qzT | apply qzF | (apply qzB; simp (disch:=omega) only [zA,bzXd.1,lw] <;> rfl))
 refine Tl.bind (f86c (k:=k + 379) (wordsB l).length (by omega) (by simp; omega) S2) ?_
 rintro ⟨o2,h3⟩ S3
 simp only at S3
 with_reducible repeat (first | (apply qzV; simp (disch:=omega) only [zA,bzXd.1,lw] <;> rfl) | apply qzT | apply qzF | (apply qzB; simp (disch:=omega) only [zA,bzXd.1,lw] <;> rfl))
 refine f179_l1 (k:=k + 378) (by omega) (fun x hx=>q2 x (wordsB_mem.1 hx)) (wordsB l).length (i:=0) (by omega) (by omega) (by simp; omega) S3 fun h4 o3 y1 y2 S4 hlen=>?_
 rw [List.drop_zero] at S4 hlen
 with_reducible repeat (first | (apply qzV; simp (disch:=omega) only [zA,bzXd.1,ll] <;> rfl) | apply qzT | apply qzF | (apply qzB; simp (disch:=omega) only [zA,bzXd.1,ll] <;> rfl))
 refine f179_l2 (k:=k + 396) (O:=[]) (A.grow (Grow.refl _)) q1 (by omega) (wordsB_rise l) (fun x hx=>wordsB_mem.2 hx) (by omega) l.length (i:=0) (done:=[]) (by omega) (by omega) rfl (S4.nil 1) fun h5 av y3 y4 S5=>?_
 rw [List.drop_zero,List.nil_append] at S5
 have Aw : Words h5 av (atW l):=S5.sl1 (f:=u64v) 0 rfl
 have wid : eInv env (k + 399) (.func 119) #[] #[av] h5 = some (.int .i64 (widW l),h5):=Pk.f15c (k:=k + 397) Aw.pk (by omega) ha64 (by omega)
 with_reducible repeat (first | (apply qzV; simp (disch:=omega) only [zA,bzXd.1,wid] <;> rfl) | apply qzT | apply qzF | (apply qzB; simp (disch:=omega) only [zA,bzXd.1,wid] <;> rfl))
 refine Tl.bind (f88c (k:=k + 98) Aw (by omega) (by omega) ha64 (widW l)) ?_
 rintro ⟨r,h6⟩ ⟨pv,er,g6,X6⟩
 simp only at er g6 X6
 subst er
 rw [hE]
 have eL : Pk.putL (atW l) (widW l) = putN (widW l) (atW l):=by
  unfold Pk.putL
  rw [if_pos hE]
  rfl
 rw [eL] at X6
 have S6:=S5.gain g6 X6
 have hW2 : widW l ≤ 64:=hW
 have hpn : (putN (widW l) (atW l)).length ≤ 100000:=by
  have:=(putN_spec (widW l) (atW l)).2.1
  rw [this,hal]
  have : l.length * widW l ≤ 4096 * 64:=Nat.mul_le_mul q1 hW2
  omega
 have hwm : (wordsB l).length * 65546 ≤ 4096 * 65546:=Nat.mul_le_mul_right _ (by omega)
 with_reducible repeat (first | (apply qzV; simp (disch:=omega) only [zA,bzXd.1] <;> rfl) | apply qzT | apply qzF | (apply qzB; simp (disch:=omega) only [zA,bzXd.1] <;> rfl))
 have S6:=S6.keepO (O':=[(pv,1,u8rows (putN (widW l) (atW l))),(o3,1,u8rows ([2] ++ pvarN l.length ++ pvarN (wordsB l).length ++ (wordsB l).flatMap textP))]) (by
  refine .cons_cons _ (.cons _ (.cons_cons _ (.cons _ .slnil)))) 
 refine Tl.push S6 1 rfl app93 (bs93 _ _) rfl rfl (by rw [u8rows_len]; omega) fun o4 h7 S7=>?_
 with_reducible repeat (first | (apply qzV; simp (disch:=omega) only [zA,bzXd.1] <;> rfl) | apply qzT | apply qzF | (apply qzB; simp (disch:=omega) only [zA,bzXd.1] <;> rfl))
 have S7 : Stt prog h.n h h7 [] [(pv,1,u8rows (putN (widW l) (atW l))),(o4,1,u8rows ([2] ++ pvarN l.length ++ pvarN (wordsB l).length ++ (wordsB l).flatMap textP ++ [widW l]))]:=by
  have e : u8rows ([2] ++ pvarN l.length ++ pvarN (wordsB l).length ++ (wordsB l).flatMap textP ++ [widW l]) = u8rows ([2] ++ pvarN l.length ++ pvarN (wordsB l).length ++ (wordsB l).flatMap textP) ++ [[.int .u8 (widW l : Int)]]:=by
   unfold u8rows
   rw [List.map_append]
   rfl
  rw [e]; exact S7
 refine Tl.append' S7 1 rfl app93 (S7.slV 0 rfl) (one_u8rows _) (by rw [u8rows_len,u8rows_len]; simp at hlen ⊢; omega) fun o5 h8 S8=>?_
 with_reducible repeat (first | (apply qzV; simp (disch:=omega) only [zA,bzXd.1] <;> rfl) | apply qzT | apply qzF | (apply qzB; simp (disch:=omega) only [zA,bzXd.1] <;> rfl))
 refine ⟨_,rfl,_,rfl,?_⟩
 have e : u8rows (dictT l) = u8rows ([2] ++ pvarN l.length ++ pvarN (wordsB l).length ++ (wordsB l).flatMap textP ++ [widW l]) ++ u8rows (putN (widW l) (atW l)):=by
  unfold dictT u8rows
  rw [List.map_append]
 rw [e]
 exact S8.keepO (.cons _ (.cons_cons _ .slnil))
end
end Go.Proofs.YtlbmlncdjkdoaaaGreat.Sh
/- Texts that are read: 'read', 'words'. -/
set_option linter.unusedVariables false
set_option linter.unusedSimpArgs false
set_option maxRecDepth 100000
namespace Go.Proofs.YtlbmlncdjkdoaaaGreat.Sh
open Go Go.RowKit Go.Proofs.Ev
def readT : Nat→List Nat→Option (List ByteArray × List Nat)
 | 0,r=>some ([],r)
 | n + 1,r=>match dec 0 0 r with
  | none=>none
  | some (s,r1)=>if s > 65536 ∨ r1.length < s then none else (readT n (r1.drop s)).map fun p=>(strB (r1.take s) :: p.1,p.2)
def lookT (w : List ByteArray) : List Nat→Option (List ByteArray)
 | []=>some []
 | i :: l=>match w[i]? with
  | none=>none
  | some s=>(lookT w l).map (s :: ·)
def wordsT (n : Nat) (r : List Nat) : Option (List ByteArray):=match dec 0 0 r with
 | none=>none
 | some (k,r1)=>if k > n then none else match readT k r1 with
  | none=>none
  | some (w,r2)=>match r2 with
   | []=>none
   | wd :: r3=>if Pk.checkE r3 (n : Int) (wd : Int) ≠ 0 then none else lookT w (Pk.getN r3 (n : Int) (wd : Int))
section
variable {n0 : Nat} {h0 h : AH} {L : List (Nat × AO)} {O : List OS} {i br : Nat} {rv : Value} {rest : List Nat}
end
end Go.Proofs.YtlbmlncdjkdoaaaGreat.Sh
/- Texts that are got: 'Get'. -/
set_option linter.unusedVariables false
set_option linter.unusedSimpArgs false
set_option maxRecDepth 100000
namespace Go.Proofs.YtlbmlncdjkdoaaaGreat.Sh
open Go Go.RowKit Go.Proofs.Ev
open Tryz (prog)
def bzXf:=PLift.up (ai @ld3 (ai @ld4 (ai @ld9 (ai @ld27 (ai @ld93 (ai @ld121 (ai @ld124 (ai (fun a h=>conv_int (a:=a) (h:=h) u3 u121) (ai (fun a h=>conv_int (a:=a) (h:=h) u121 u3) (ai (fun ox oy a b=>bin_eql_bool (ox:=ox) (oy:=oy) (a:=a) (b:=b) u4) (ai @Nat.add_zero (ai @ex2_0 (@ex2_1)))))))))))))
/-- What a form's texts are. -/
def formT (form n : Nat) (r1 : List Nat) : Option (List ByteArray):=if form = 1 then (readT n r1).map (·.1) else if form = 2 then wordsT n r1 else none
def putF (form : Nat) (l : List ByteArray) : List Nat:=if form = 1 then plainG l else dictG l
def getT (b : List Nat) : Option (List ByteArray):=match b with
 | []=>none
 | form :: r=>match dec 0 0 r with
  | none=>none
  | some (n,r1)=>if n > 4096 then none else match formT form n r1 with
   | none=>none
   | some l=>if putF form l = b then some l else none
theorem plainG_256 (l : List ByteArray) : ∀ x ∈ plainG l,x < 256:=fun x hx=>by
 unfold plainG at hx
 split at hx
 ·unfold plainT at hx
  rcases List.mem_cons.1 hx with rfl | hx
  ·omega
  ·rcases List.mem_append.1 hx with hx | hx
   ·exact pvarN_256 _ x hx
   ·obtain ⟨s,_,hs⟩:=List.mem_flatMap.1 hx
    unfold textP at hs
    rcases List.mem_append.1 hs with hs | hs
    ·exact pvarN_256 _ x hs
    ·exact bytesN_lt s x hs
 ·cases hx
theorem dictG_256 (l : List ByteArray) : ∀ x ∈ dictG l,x < 256:=fun x hx=>by
 unfold dictG at hx
 split at hx
 ·rename_i hm
  have hlen:=(mayT_spec.1 hm).1
  unfold dictT at hx
  simp only [List.mem_append,List.mem_singleton] at hx
  rcases hx with ((((hx | hx) | hx) | hx) | hx) | hx
  ·omega
  ·exact pvarN_256 _ x hx
  ·exact pvarN_256 _ x hx
  ·obtain ⟨s,_,hs⟩:=List.mem_flatMap.1 hx
   unfold textP at hs
   rcases List.mem_append.1 hs with hs | hs
   ·exact pvarN_256 _ x hs
   ·exact bytesN_lt s x hs
  ·have:=Pk.width64 (l:=atW l) fun y hy=>by have:=atW_lt y hy; omega
   unfold widW at hx
   omega
  ·exact (putN_spec _ _).2.2 x hx
 ·cases hx
section
variable {n0 : Nat} {h0 h : AH} {L : List (Nat × AO)} {O : List OS}
/-! ### 'Put' -/
def putT (l : List ByteArray) : List Nat:=if mayT l then (if (dictT l).length < (plainT l).length then dictT l else plainT l) else []
theorem plainT_le {l : List ByteArray} (h : mayT l = true) : (plainT l).length ≤ 2 ^ 30:=by
 obtain ⟨h1,h2⟩:=mayT_spec.1 h
 have key : ∀ l : List ByteArray,(∀ x ∈ l,x.size ≤ 65536)→(l.flatMap textP).length ≤ l.length * 65546:=by
  intro l
  induction l with
  | nil=>intro _; simp
  | cons x l ih =>
   intro h
   have a:=ih fun y hy=>h y (List.mem_cons_of_mem _ hy)
   have b:=textP_len x (by have:=h x (List.mem_cons_self ..); omega)
   have c:=h x (List.mem_cons_self ..)
   rw [List.flatMap_cons,List.length_append,List.length_cons,Nat.succ_mul]
   omega
 have:=key l h2
 have hm : l.length * 65546 ≤ 4096 * 65546:=Nat.mul_le_mul_right _ h1
 have hp:=pvarN_le10 (n:=l.length) (by omega)
 unfold plainT
 rw [List.length_cons,List.length_append]
 omega
theorem f143c {k : Nat} {h : AH} {v : Value} {l : List ByteArray} (A : Strs h v l) (hl : l.length ≤ 9223372036854775807) (hk : 4096 < k) :
  Tl (eInv env (k + 401) (.func 143) #[] #[v] h) fun r=>∃ v',r.1 = .tuple #[v',.int .i64 (checkT l)] ∧ Stt prog h.n h r.2 [] [(v',1,u8rows (putT l))]:=by
 rw [F143_call]
 unfold F143
 refine Tl.bind (f178c (k:=k + 378) A hl (by omega)) ?_
 rintro ⟨rr,h1⟩ ⟨pv,er,S1⟩
 simp only at er S1
 subst er
 unfold checkT plainG putT at *
 cases q : mayT l
 ·rw [q] at S1
  simp only [Bool.false_eq_true,if_false] at S1 ⊢
  with_reducible repeat (first | (apply qzV; simp (disch:=omega) only [zA,bzXf.1] <;> rfl) | apply qzT | apply qzF | apply qzG | ((first | apply qzB | apply qzC); simp (disch:=omega) only [zA,bzXf.1] <;> rfl))
  exact ⟨_,rfl,_,rfl,S1.dropO.nil 1⟩
 rw [q] at S1
 simp only [if_true] at S1 ⊢
 with_reducible repeat (first | (apply qzV; simp (disch:=omega) only [zA,bzXf.1] <;> rfl) | apply qzT | apply qzF | apply qzG | ((first | apply qzB | apply qzC); simp (disch:=omega) only [zA,bzXf.1] <;> rfl))
 refine Tl.bind (f179c (k:=k) (A.grow S1.grow) hl hk) ?_
 rintro ⟨rr,h2⟩ ⟨dv,er,S2⟩
 simp only at er S2
 subst er
 have S2:=S1.join S2
 unfold checkT dictG at *
 rw [q] at S2 ⊢
 simp only [if_true] at S2 ⊢
 have lp : ∀ h',pLen prog #[93] pv h' = some (.int .i64 (plainT l).length):=fun h'=>Bytes.len (S2.sl1 (f:=u8v) 1 rfl)
 have ld : ∀ h',pLen prog #[93] dv h' = some (.int .i64 (dictT l).length):=fun h'=>Bytes.len (S2.sl1 (f:=u8v) 0 rfl)
 simp only [G143_5]
 by_cases q2 : (dictT l).length < (plainT l).length
 ·rw [if_pos q2]
  with_reducible repeat (first | (apply qzV; simp (disch:=omega) only [zA,bzXf.1,lp,ld] <;> rfl) | apply qzT | apply qzF | apply qzG | ((first | apply qzB | apply qzC); simp (disch:=omega) only [zA,bzXf.1,lp,ld] <;> rfl))
  exact ⟨_,rfl,_,rfl,S2.keepO (.cons_cons _ (.cons _ .slnil))⟩
 ·rw [if_neg q2]
  with_reducible repeat (first | (apply qzV; simp (disch:=omega) only [zA,bzXf.1,lp,ld] <;> rfl) | apply qzT | apply qzF | apply qzG | ((first | apply qzB | apply qzC); simp (disch:=omega) only [zA,bzXf.1,lp,ld] <;> rfl))
  exact ⟨_,rfl,_,rfl,S2.keepO (.cons _ (.cons_cons _ .slnil))⟩
end
end Go.Proofs.YtlbmlncdjkdoaaaGreat.Sh
/- Codecs: 'cells'. -/
set_option linter.unusedVariables false
set_option linter.unusedSimpArgs false
set_option maxRecDepth 100000
namespace Go.Proofs.YtlbmlncdjkdoaaaGreat.Sh
open Go Go.RowKit Go.Proofs.Ev Go.Lib
open Tryz (prog)
def bzS3:=PLift.up (ai @ld3 (ai @ld2 (ai @ld9 (ai @ld121 (ai @ld39 (ai @ld53 (ai @ld126 (ai @ld134 (ai @ld142 (ai @ld127 (ai @ld120 (ai @ld143 (ai @ld129 (ai @ld137 (ai @ld145 (ai @fa132_0 (ai @fa132_2 (ai @fa132_4 (ai @fa140_0 (ai @fa140_2 (ai @fa140_4 (ai @fa148_0 (ai @fa148_2 (ai @fa148_4 (ai @fa39_0 (ai @fa39_1 (ai @fa39_2 (ai @fa53_0 (ai @fa53_1 (ai @fa53_2 (ai @fa53_3 (ai (fun a h=>conv_int (a:=a) (h:=h) u2 u121) (ai (fun a h=>conv_int (a:=a) (h:=h) u121 u2) (ai (fun a h=>conv_int (a:=a) (h:=h) u121 u5) (ai (fun a h=>conv_int (a:=a) (h:=h) u3 u121) (ai @aggC (ai @wrapU (ai @ex2_0 (ai @ex2_1 (@Nat.add_zero))))))))))))))))))))))))))))))))))))))))
section
variable {n0 : Nat} {h0 h : AH} {L : List (Nat × AO)} {O : List OS}
theorem f135c {k : Nat} {h : AH} {v : Value} {l : List Nat} (A : Words h v l) (hl : l.length ≤ 65536) (hlk : l.length < k + 299) (hx : ∀ x ∈ l,x < 18446744073709551616) :
  Tl (eInv env (k + 302) (.func 135) #[] #[v] h) fun r=>∃ o,r.1 = .tuple #[o,.int .i64 (Pk.putE l 1)] ∧ Grow h r.2 ∧ OwnB prog h.n r.2 o 1 (u8rows (Pk.putL l 1)):=by
 rw [F135_call]
 unfold F135
 refine Tl.bind (f88c (k:=k) A hl hlk hx 1) ?_
 rintro ⟨r,h1⟩ ⟨o,er,g,X⟩
 simp only at er g X
 subst er
 with_reducible repeat (first | (apply qzV; simp (disch:=omega) only [zA,bzS3.1] <;> rfl) | apply qzT | apply qzF | (apply qzB; simp (disch:=omega) only [zA,bzS3.1] <;> rfl))
 exact ⟨_,rfl,o,rfl,g,X⟩
def valsN (l : List CellD) : List Int:=l.map fun c=>c.i
theorem cellsN_loop {β : Type} {k : Nat} {Q : β→Prop} {h0 : AH} {b2 : Nat} {v : Value} {l : List CellD} (A : Cells h0 v l) (hl : l.length ≤ 4096) {ke0 : Value→Value→Value→Value→Value→Value→AH→Option β} (n : Nat) :
  ∀ {i j : Nat} {h : AH} {av : Value},i + n = l.length→n < j→Stt prog h0.n h0 h [(b2,.cells codNL 132 true)] [(av,1,i6rows (valsN (l.take i)))] →
   (∀ h' av' y11 y12,Stt prog h0.n h0 h' [(b2,.cells codNL 132 true)] [(av',1,i6rows (valsN l))]→Tl (ke0 (ptr b2) av' v (.int .i64 l.length) y11 y12 h') Q) →
   Tl (F260_lrlrr (eInv env (k + 1)) (k + 1) j (ptr b2) av v (.int .i64 l.length) (.int .i64 i) h ke0) Q:=by
 induction n with
 | zero =>
  intro i j h av hi hj T hk
  obtain ⟨j,rfl⟩ : ∃ q,j = q + 1:=⟨j - 1,by omega⟩
  simp only [F260_lrlrr]
  with_reducible repeat (first | (apply qzV; simp (disch:=omega) only [zA,bzS3.1] <;> rfl) | apply qzT | apply qzF | (apply qzB; simp (disch:=omega) only [zA,bzS3.1] <;> rfl))
  rw [List.take_of_length_le (by omega)] at T
  exact hk _ _ _ _ T
 | succ n ih =>
  intro i j h av hi hj T hk
  obtain ⟨j,rfl⟩ : ∃ q,j = q + 1:=⟨j - 1,by omega⟩
  obtain ⟨c,hc⟩ : ∃ c,l[i]? = some c:=⟨_,List.getElem?_eq_getElem (by omega)⟩
  obtain ⟨b,o,hx,hr⟩:=(A.grow T.grow).at_ hc
  have e : (i : Int) + 1 = ((i + 1 : Nat) : Int):=by omega
  have hti : l.take (i + 1) = l.take i ++ [c]:=by rw [List.take_add_one,hc]; rfl
  simp only [F260_lrlrr]
  unfold ptr
  with_reducible repeat (first | (apply qzV; simp (disch:=omega) only [zA,bzS3.1,hx,hr] <;> rfl) | apply qzT | apply qzF | (apply qzB; simp (disch:=omega) only [zA,bzS3.1,hx,hr] <;> rfl))
  refine Tl.alloc' T ze39 rfl fun b4 h1 T1 _=>?_
  refine Tl.store' T1 0 rfl sz39 rfl rfl (of_decide_eq_true rfl) fun h2 T2 _=>?_
  have T2 : Stt prog h0.n h0 h2 [Cr b4 c,(b2,.cells codNL 132 true)] [(av,1,i6rows (valsN (l.take i)))]:=T2
  obtain ⟨r4,_⟩:=c_at T2 0 rfl
  have q0:=T2.cell (o:=0) (v:=.func (.func 122) #[] #[]) 1 rfl rfl
  with_reducible repeat (first | (apply qzV; simp (disch:=omega) only [zA,bzS3.1,r4,q0] <;> rfl) | apply qzT | apply qzF | (apply qzB; simp (disch:=omega) only [zA,bzS3.1,r4,q0] <;> rfl))
  rw [callV_fn1]
  with_reducible refine Tl.call' T2 (f122c (k:=k) c h2) fun h3 T3 _=>?_
  refine Tl.push T3 0 rfl app163 (bs163 _ _) rfl rfl (by simp [i6rows,valsN]; omega) fun av' h5 T5=>?_
  with_reducible repeat (first | (apply qzV; simp (disch:=omega) only [zA,bzS3.1] <;> rfl) | apply qzT | apply qzF | (apply qzB; simp (disch:=omega) only [zA,bzS3.1] <;> rfl))
  rw [e]
  refine ih (by omega) (by omega) ?_ hk
  have e2 : i6rows (valsN (l.take i)) ++ [[i6v (c.i)]] = i6rows (valsN (l.take (i + 1))):=by rw [hti]; simp [i6rows,valsN]
  rw [← e2]
  exact T5.drop
/-- 'cells'. -/
theorem cellsN_c {k : Nat} {h : AH} {v : Value} {l : List CellD} (A : Cells h v l) (hl : l.length ≤ 4096) (hk : 4096 < k) :
  Tl (eInv env (k + 602) (.method "shadowbook/segment.cells") #[] #[.iface 132 (.agg codNL.toArray), v] h) fun r => ∃ o, r.1 = .tuple #[o, .int .i64 (0)] ∧ Stt prog h.n h r.2 [] [(o, 1, u8rows (putI (valsN l)))] := by
 rw [show eInv env (k + 602) (.method "shadowbook/segment.cells") #[] #[.iface 132 (.agg codNL.toArray), v] h = F260 (eInv env (k + 601)) (k + 601) (.agg codNL.toArray) v h from
  (by kernel_rfl : _ = eFun env (k + 601) (eInv env (k + 601)) 260 #[.agg codNL.toArray,v] h).trans F260_eq]
 unfold F260
 refine Tl.box' (Stt.init h) rfl isN fun b2 h1 S1 _=>?_
 have S1 : Stt prog h.n h h1 [(b2,.cells codNL 132 true)] []:=S1
 have hv : ∀ h' : AH,pLen prog #[34] v h' = some (.int .i64 l.length):=fun h'=>A.len
 with_reducible repeat (first | (apply qzV; simp (disch:=omega) only [zA,bzS3.1,hv] <;> rfl) | apply qzT | apply qzF | (apply qzB; simp (disch:=omega) only [zA,bzS3.1,hv] <;> rfl))
 refine cellsN_loop (k:=k + 600) (i:=0) A hl l.length (by omega) (by omega) (S1.nil 1) fun h2 av y11 y12 S2=>?_
 have q4:=S2.cell (o:=4) (v:=.func (.func 128) #[] #[]) 0 rfl rfl
 unfold ptr
 with_reducible repeat (first | (apply qzV; simp (disch:=omega) only [zA,bzS3.1,q4] <;> rfl) | apply qzT | apply qzF | (apply qzB; simp (disch:=omega) only [zA,bzS3.1,q4] <;> rfl))
 rw [callV_fn1]
 have B : Ints h2 av (valsN l):=S2.sl1 (f:=i6v) 0 rfl
 refine Tl.bind (f128s (k:=k + 100) B (by simp [valsN]; omega) (by simp [valsN]; omega)) ?_
 rintro ⟨r,h3⟩ ⟨o,er,X⟩
 simp only at er X
 subst er
 with_reducible repeat (first | (apply qzV; simp (disch:=omega) only [zA,bzS3.1] <;> rfl) | apply qzT | apply qzF | (apply qzB; simp (disch:=omega) only [zA,bzS3.1] <;> rfl))
 exact ⟨_,rfl,o,rfl,((S2.drop.join X).keepO (.cons_cons _ (List.nil_sublist _)))⟩
def valsT (l : List CellD) : List Nat:=l.map fun c=>toU c.i
theorem cellsT_loop {β : Type} {k : Nat} {Q : β→Prop} {h0 : AH} {b2 : Nat} {v : Value} {l : List CellD} (A : Cells h0 v l) (hl : l.length ≤ 4096) {ke0 : Value→Value→Value→Value→Value→Value→AH→Option β} (n : Nat) :
  ∀ {i j : Nat} {h : AH} {av : Value},i + n = l.length→n < j→Stt prog h0.n h0 h [(b2,.cells codTL 140 true)] [(av,1,u64rows (valsT (l.take i)))] →
   (∀ h' av' y11 y12,Stt prog h0.n h0 h' [(b2,.cells codTL 140 true)] [(av',1,u64rows (valsT l))]→Tl (ke0 (ptr b2) av' v (.int .i64 l.length) y11 y12 h') Q) →
   Tl (F264_lrlrr (eInv env (k + 1)) (k + 1) j (ptr b2) av v (.int .i64 l.length) (.int .i64 i) h ke0) Q:=by
 induction n with
 | zero =>
  intro i j h av hi hj T hk
  obtain ⟨j,rfl⟩ : ∃ q,j = q + 1:=⟨j - 1,by omega⟩
  simp only [F264_lrlrr]
  with_reducible repeat (first | (apply qzV; simp (disch:=omega) only [zA,bzS3.1] <;> rfl) | apply qzT | apply qzF | (apply qzB; simp (disch:=omega) only [zA,bzS3.1] <;> rfl))
  rw [List.take_of_length_le (by omega)] at T
  exact hk _ _ _ _ T
 | succ n ih =>
  intro i j h av hi hj T hk
  obtain ⟨j,rfl⟩ : ∃ q,j = q + 1:=⟨j - 1,by omega⟩
  obtain ⟨c,hc⟩ : ∃ c,l[i]? = some c:=⟨_,List.getElem?_eq_getElem (by omega)⟩
  obtain ⟨b,o,hx,hr⟩:=(A.grow T.grow).at_ hc
  have e : (i : Int) + 1 = ((i + 1 : Nat) : Int):=by omega
  have hti : l.take (i + 1) = l.take i ++ [c]:=by rw [List.take_add_one,hc]; rfl
  simp only [F264_lrlrr]
  unfold ptr
  with_reducible repeat (first | (apply qzV; simp (disch:=omega) only [zA,bzS3.1,hx,hr] <;> rfl) | apply qzT | apply qzF | (apply qzB; simp (disch:=omega) only [zA,bzS3.1,hx,hr] <;> rfl))
  refine Tl.alloc' T ze39 rfl fun b4 h1 T1 _=>?_
  refine Tl.store' T1 0 rfl sz39 rfl rfl (of_decide_eq_true rfl) fun h2 T2 _=>?_
  have T2 : Stt prog h0.n h0 h2 [Cr b4 c,(b2,.cells codTL 140 true)] [(av,1,u64rows (valsT (l.take i)))]:=T2
  obtain ⟨r4,_⟩:=c_at T2 0 rfl
  have q0:=T2.cell (o:=0) (v:=.func (.func 131) #[] #[]) 1 rfl rfl
  with_reducible repeat (first | (apply qzV; simp (disch:=omega) only [zA,bzS3.1,r4,q0] <;> rfl) | apply qzT | apply qzF | (apply qzB; simp (disch:=omega) only [zA,bzS3.1,r4,q0] <;> rfl))
  rw [callV_fn1]
  with_reducible refine Tl.call' T2 (f131c (k:=k) c h2) fun h3 T3 _=>?_
  refine Tl.push T3 0 rfl app124 (bs124 _ _) rfl rfl (by simp [u64rows,valsT]; omega) fun av' h5 T5=>?_
  with_reducible repeat (first | (apply qzV; simp (disch:=omega) only [zA,bzS3.1] <;> rfl) | apply qzT | apply qzF | (apply qzB; simp (disch:=omega) only [zA,bzS3.1] <;> rfl))
  rw [e]
  refine ih (by omega) (by omega) ?_ hk
  have e2 : u64rows (valsT (l.take i)) ++ [[u64v (toU c.i)]] = u64rows (valsT (l.take (i + 1))):=by rw [hti]; simp [u64rows,valsT]
  rw [← e2]
  exact T5.drop
/-- 'cells'. -/
theorem cellsT_c {k : Nat} {h : AH} {v : Value} {l : List CellD} (A : Cells h v l) (hl : l.length ≤ 4096) (hk : 4096 < k) :
  Tl (eInv env (k + 602) (.method "shadowbook/segment.cells") #[] #[.iface 140 (.agg codTL.toArray), v] h) fun r => ∃ o, r.1 = .tuple #[o, .int .i64 (Pk.putE (valsT l) 1)] ∧ Stt prog h.n h r.2 [] [(o, 1, u8rows (Pk.putL (valsT l) 1))] := by
 rw [show eInv env (k + 602) (.method "shadowbook/segment.cells") #[] #[.iface 140 (.agg codTL.toArray), v] h = F264 (eInv env (k + 601)) (k + 601) (.agg codTL.toArray) v h from
  (by kernel_rfl : _ = eFun env (k + 601) (eInv env (k + 601)) 264 #[.agg codTL.toArray,v] h).trans F264_eq]
 unfold F264
 refine Tl.box' (Stt.init h) rfl isT fun b2 h1 S1 _=>?_
 have S1 : Stt prog h.n h h1 [(b2,.cells codTL 140 true)] []:=S1
 have hv : ∀ h' : AH,pLen prog #[34] v h' = some (.int .i64 l.length):=fun h'=>A.len
 with_reducible repeat (first | (apply qzV; simp (disch:=omega) only [zA,bzS3.1,hv] <;> rfl) | apply qzT | apply qzF | (apply qzB; simp (disch:=omega) only [zA,bzS3.1,hv] <;> rfl))
 refine cellsT_loop (k:=k + 600) (i:=0) A hl l.length (by omega) (by omega) (S1.nil 1) fun h2 av y11 y12 S2=>?_
 have q4:=S2.cell (o:=4) (v:=.func (.func 135) #[] #[]) 0 rfl rfl
 unfold ptr
 with_reducible repeat (first | (apply qzV; simp (disch:=omega) only [zA,bzS3.1,q4] <;> rfl) | apply qzT | apply qzF | (apply qzB; simp (disch:=omega) only [zA,bzS3.1,q4] <;> rfl))
 rw [callV_fn1]
 have B : Words h2 av (valsT l):=S2.sl1 (f:=u64v) 0 rfl
 refine Tl.bind (f135c (k:=k + 299) B (by simp [valsT]; omega) (by simp [valsT]; omega) (fun q hq=>?_)) ?_
 ·obtain ⟨c,_,rfl⟩:=List.mem_map.1 hq
  exact toU_lt _
 rintro ⟨r,h3⟩ ⟨o,er,g,X⟩
 simp only at er g X
 subst er
 with_reducible repeat (first | (apply qzV; simp (disch:=omega) only [zA,bzS3.1] <;> rfl) | apply qzT | apply qzF | (apply qzB; simp (disch:=omega) only [zA,bzS3.1] <;> rfl))
 exact ⟨_,rfl,o,rfl,((S2.drop.gain g X).keepO (.cons_cons _ (List.nil_sublist _)))⟩
def valsW (l : List CellD) : List ByteArray:=l.map fun c=>c.s
theorem cellsW_loop {β : Type} {k : Nat} {Q : β→Prop} {h0 : AH} {b2 : Nat} {v : Value} {l : List CellD} (A : Cells h0 v l) (hl : l.length ≤ 4096) {ke0 : Value→Value→Value→Value→Value→Value→AH→Option β} (n : Nat) :
  ∀ {i j : Nat} {h : AH} {av : Value},i + n = l.length→n < j→Stt prog h0.n h0 h [(b2,.cells codWL 148 true)] [(av,1,srows (valsW (l.take i)))] →
   (∀ h' av' y11 y12,Stt prog h0.n h0 h' [(b2,.cells codWL 148 true)] [(av',1,srows (valsW l))]→Tl (ke0 (ptr b2) av' v (.int .i64 l.length) y11 y12 h') Q) →
   Tl (F268_lrlrr (eInv env (k + 1)) (k + 1) j (ptr b2) av v (.int .i64 l.length) (.int .i64 i) h ke0) Q:=by
 induction n with
 | zero =>
  intro i j h av hi hj T hk
  obtain ⟨j,rfl⟩ : ∃ q,j = q + 1:=⟨j - 1,by omega⟩
  simp only [F268_lrlrr]
  with_reducible repeat (first | (apply qzV; simp (disch:=omega) only [zA,bzS3.1] <;> rfl) | apply qzT | apply qzF | (apply qzB; simp (disch:=omega) only [zA,bzS3.1] <;> rfl))
  rw [List.take_of_length_le (by omega)] at T
  exact hk _ _ _ _ T
 | succ n ih =>
  intro i j h av hi hj T hk
  obtain ⟨j,rfl⟩ : ∃ q,j = q + 1:=⟨j - 1,by omega⟩
  obtain ⟨c,hc⟩ : ∃ c,l[i]? = some c:=⟨_,List.getElem?_eq_getElem (by omega)⟩
  obtain ⟨b,o,hx,hr⟩:=(A.grow T.grow).at_ hc
  have e : (i : Int) + 1 = ((i + 1 : Nat) : Int):=by omega
  have hti : l.take (i + 1) = l.take i ++ [c]:=by rw [List.take_add_one,hc]; rfl
  simp only [F268_lrlrr]
  unfold ptr
  with_reducible repeat (first | (apply qzV; simp (disch:=omega) only [zA,bzS3.1,hx,hr] <;> rfl) | apply qzT | apply qzF | (apply qzB; simp (disch:=omega) only [zA,bzS3.1,hx,hr] <;> rfl))
  refine Tl.alloc' T ze39 rfl fun b4 h1 T1 _=>?_
  refine Tl.store' T1 0 rfl sz39 rfl rfl (of_decide_eq_true rfl) fun h2 T2 _=>?_
  have T2 : Stt prog h0.n h0 h2 [Cr b4 c,(b2,.cells codWL 148 true)] [(av,1,srows (valsW (l.take i)))]:=T2
  obtain ⟨r4,_⟩:=c_at T2 0 rfl
  have q0:=T2.cell (o:=0) (v:=.func (.func 138) #[] #[]) 1 rfl rfl
  with_reducible repeat (first | (apply qzV; simp (disch:=omega) only [zA,bzS3.1,r4,q0] <;> rfl) | apply qzT | apply qzF | (apply qzB; simp (disch:=omega) only [zA,bzS3.1,r4,q0] <;> rfl))
  rw [callV_fn1]
  with_reducible refine Tl.call' T2 (f138c (k:=k) c h2) fun h3 T3 _=>?_
  refine Tl.push T3 0 rfl app27 (bs27 _ _) rfl rfl (by simp [srows,valsW]; omega) fun av' h5 T5=>?_
  with_reducible repeat (first | (apply qzV; simp (disch:=omega) only [zA,bzS3.1] <;> rfl) | apply qzT | apply qzF | (apply qzB; simp (disch:=omega) only [zA,bzS3.1] <;> rfl))
  rw [e]
  refine ih (by omega) (by omega) ?_ hk
  have e2 : srows (valsW (l.take i)) ++ [[Value.string (c.s)]] = srows (valsW (l.take (i + 1))):=by rw [hti]; simp [srows,valsW]
  rw [← e2]
  exact T5.drop
/-- 'cells'. -/
theorem cellsW_c {k : Nat} {h : AH} {v : Value} {l : List CellD} (A : Cells h v l) (hl : l.length ≤ 4096) (hk : 4096 < k) :
  Tl (eInv env (k + 602) (.method "shadowbook/segment.cells") #[] #[.iface 148 (.agg codWL.toArray), v] h) fun r => ∃ o, r.1 = .tuple #[o, .int .i64 (checkT (valsW l))] ∧ Stt prog h.n h r.2 [] [(o, 1, u8rows (putT (valsW l)))] := by
 rw [show eInv env (k + 602) (.method "shadowbook/segment.cells") #[] #[.iface 148 (.agg codWL.toArray), v] h = F268 (eInv env (k + 601)) (k + 601) (.agg codWL.toArray) v h from
  (by kernel_rfl : _ = eFun env (k + 601) (eInv env (k + 601)) 268 #[.agg codWL.toArray,v] h).trans F268_eq]
 unfold F268
 refine Tl.box' (Stt.init h) rfl isW fun b2 h1 S1 _=>?_
 have S1 : Stt prog h.n h h1 [(b2,.cells codWL 148 true)] []:=S1
 have hv : ∀ h' : AH,pLen prog #[34] v h' = some (.int .i64 l.length):=fun h'=>A.len
 with_reducible repeat (first | (apply qzV; simp (disch:=omega) only [zA,bzS3.1,hv] <;> rfl) | apply qzT | apply qzF | (apply qzB; simp (disch:=omega) only [zA,bzS3.1,hv] <;> rfl))
 refine cellsW_loop (k:=k + 600) (i:=0) A hl l.length (by omega) (by omega) (S1.nil 1) fun h2 av y11 y12 S2=>?_
 have q4:=S2.cell (o:=4) (v:=.func (.func 143) #[] #[]) 0 rfl rfl
 unfold ptr
 with_reducible repeat (first | (apply qzV; simp (disch:=omega) only [zA,bzS3.1,q4] <;> rfl) | apply qzT | apply qzF | (apply qzB; simp (disch:=omega) only [zA,bzS3.1,q4] <;> rfl))
 rw [callV_fn1]
 have B : Strs h2 av (valsW l):=S2.sl1 (f:=Value.string) 0 rfl
 refine Tl.bind (f143c (k:=k + 200) B (by simp [valsW]; omega) (by omega)) ?_
 rintro ⟨r,h3⟩ ⟨o,er,X⟩
 simp only at er X
 subst er
 with_reducible repeat (first | (apply qzV; simp (disch:=omega) only [zA,bzS3.1] <;> rfl) | apply qzT | apply qzF | (apply qzB; simp (disch:=omega) only [zA,bzS3.1] <;> rfl))
 exact ⟨_,rfl,o,rfl,((S2.drop.join X).keepO (.cons_cons _ (List.nil_sublist _)))⟩
end
end Go.Proofs.YtlbmlncdjkdoaaaGreat.Sh
/- Which cells of a kind may be: 'segment.Check'; 'LightCells'. -/
set_option linter.unusedVariables false
set_option linter.unusedSimpArgs false
set_option maxRecDepth 100000
namespace Go.Proofs.YtlbmlncdjkdoaaaGreat.Sh
open Go Go.RowKit Go.Proofs.Ev Go.Lib
open Tryz (prog)
def bzS4:=PLift.up (ai @ld3 (ai @ld2 (ai @ld9 (ai @ld39 (ai @fa39_0 (ai @fa39_1 (ai @fa39_2 (ai @aggC (@Nat.add_zero)))))))))
theorem codNone {a : Nat} : pBin prog .eql 97 (.tmp a) (.const .nilIface) .nilIface .nilIface = some (.bool true):=by kernel_rfl
theorem cod1 {a : Nat} : pBin prog .eql 97 (.tmp a) (.const .nilIface) (codV 1) .nilIface = some (.bool false):=by kernel_rfl
theorem cod2 {a : Nat} : pBin prog .eql 97 (.tmp a) (.const .nilIface) (codV 2) .nilIface = some (.bool false):=by kernel_rfl
theorem cod3 {a : Nat} : pBin prog .eql 97 (.tmp a) (.const .nilIface) (codV 3) .nilIface = some (.bool false):=by kernel_rfl
theorem codSome {kind : Int} (hk : 1 ≤ kind ∧ kind ≤ 3) {a : Nat} : pBin prog .eql 97 (.tmp a) (.const .nilIface) (codV kind) .nilIface = some (.bool false):=by
 have h : kind = 1 ∨ kind = 2 ∨ kind = 3:=by omega
 rcases h with rfl | rfl | rfl
 ·exact cod1
 ·exact cod2
 ·exact cod3
theorem codV_none {kind : Int} (hk : ¬ (1 ≤ kind ∧ kind ≤ 3)) : codV kind = .nilIface:=by
 unfold codV
 rw [if_neg (by omega),if_neg (by omega),if_neg (by omega)]
def chkE (kind : Int) : List CellD→Int
 | []=>0
 | c :: l=>if cellE c ≠ 0 then cellE c else if c.k ≠ kind ∧ c.k ≠ 0 then 11 else chkE kind l
def segE (kind : Int) (l : List CellD) : Int:=if 1 ≤ kind ∧ kind ≤ 3 then (if l.length > 4096 then 3 else chkE kind l) else 2
theorem f68_loop {β : Type} {k : Nat} {Q : β→Prop} {h0 : AH} {v : Value} {l : List CellD} {kind : Int} (A : Cells h0 v l) (hl : l.length ≤ 4096) {ke0 : Value→Value→Value→Value→Value→AH→Option β} {kr : Value→AH→Option β} (n : Nat) :
  ∀ {i j : Nat} {h : AH},i + n = l.length→n < j→Stt prog h0.n h0 h [] [] →
   (∀ h' y1 y2 y3 y4,Grow h0 h'→chkE kind (l.drop i) = 0→Tl (ke0 (.int .i64 kind) y1 y2 y3 y4 h') Q)→(∀ h',Grow h0 h'→chkE kind (l.drop i) ≠ 0→Tl (kr (.int .i64 (chkE kind (l.drop i))) h') Q) →
   Tl (F68_lrlrrr (eInv env (k + 1)) (k + 1) j (.int .i64 kind) v (.int .i64 l.length) (.int .i64 i) h ke0 kr) Q:=by
 induction n with
 | zero =>
  intro i j h hi hj T hk hr
  obtain ⟨j,rfl⟩ : ∃ q,j = q + 1:=⟨j - 1,by omega⟩
  simp only [F68_lrlrrr]
  with_reducible repeat (first | (apply qzV; simp (disch:=omega) only [zA,bzS4.1] <;> rfl) | apply qzT | apply qzF | apply qzG | ((first | apply qzB | apply qzC); simp (disch:=omega) only [zA,bzS4.1] <;> rfl))
  exact hk _ _ _ _ _ T.grow (by rw [List.drop_eq_nil_of_le (by omega)]; rfl)
 | succ n ih =>
  intro i j h hi hj T hk hr
  obtain ⟨j,rfl⟩ : ∃ q,j = q + 1:=⟨j - 1,by omega⟩
  obtain ⟨c,hc⟩ : ∃ c,l[i]? = some c:=⟨_,List.getElem?_eq_getElem (by omega)⟩
  obtain ⟨b,o,hx,hrow⟩:=(A.grow T.grow).at_ hc
  have e : (i : Int) + 1 = ((i + 1 : Nat) : Int):=by omega
  rw [drop_at hc,chkE] at hk hr
  simp only [F68_lrlrrr]
  with_reducible repeat (first | (apply qzV; simp (disch:=omega) only [zA,bzS4.1,hx,hrow] <;> rfl) | apply qzT | apply qzF | apply qzG | ((first | apply qzB | apply qzC); simp (disch:=omega) only [zA,bzS4.1,hx,hrow] <;> rfl))
  refine Tl.alloc' T ze39 rfl fun b4 h1 T1 _=>?_
  refine Tl.store' T1 0 rfl sz39 rfl rfl (of_decide_eq_true rfl) fun h2 T2 _=>?_
  have T2 : Stt prog h0.n h0 h2 [Cr b4 c] []:=T2
  obtain ⟨r4,_⟩:=c_at T2 0 rfl
  with_reducible repeat (first | (apply qzV; simp (disch:=omega) only [zA,bzS4.1,r4] <;> rfl) | apply qzT | apply qzF | apply qzG | ((first | apply qzB | apply qzC); simp (disch:=omega) only [zA,bzS4.1,r4] <;> rfl))
  with_reducible refine Tl.call' T2 (f85c (k:=k) c h2) fun h3 T3 _=>?_
  obtain ⟨_,k4,_⟩:=c_at T3 0 rfl
  by_cases e1 : cellE c = 0
  ·rw [if_neg (by simpa using e1)] at hk hr
   by_cases e2 : c.k = kind
   ·rw [if_neg (fun q=>q.1 e2)] at hk hr
    with_reducible repeat (first | (apply qzV; simp (disch:=omega) only [zA,bzS4.1,k4] <;> rfl) | apply qzT | apply qzF | apply qzG | ((first | apply qzB | apply qzC); simp (disch:=omega) only [zA,bzS4.1,k4] <;> rfl))
    rw [e]
    exact ih (by omega) (by omega) T3.drop hk hr
   ·by_cases e3 : c.k = 0
    ·rw [if_neg (fun q=>q.2 e3)] at hk hr
     with_reducible repeat (first | (apply qzV; simp (disch:=omega) only [zA,bzS4.1,k4] <;> rfl) | apply qzT | apply qzF | apply qzG | ((first | apply qzB | apply qzC); simp (disch:=omega) only [zA,bzS4.1,k4] <;> rfl))
     rw [e]
     exact ih (by omega) (by omega) T3.drop hk hr
    ·rw [if_pos ⟨e2,e3⟩] at hr
     with_reducible repeat (first | (apply qzV; simp (disch:=omega) only [zA,bzS4.1,k4] <;> rfl) | apply qzT | apply qzF | apply qzG | ((first | apply qzB | apply qzC); simp (disch:=omega) only [zA,bzS4.1,k4] <;> rfl))
     exact hr _ T3.grow (by decide)
  ·rw [if_pos e1] at hr
   with_reducible repeat (first | (apply qzV; simp (disch:=omega) only [zA,bzS4.1] <;> rfl) | apply qzT | apply qzF | apply qzG | ((first | apply qzB | apply qzC); simp (disch:=omega) only [zA,bzS4.1] <;> rfl))
   exact hr _ T3.grow e1
theorem f68c {k : Nat} {h : AH} {v : Value} {l : List CellD} (kind : Int) (A : Cells h v l) (hl : l.length ≤ 9223372036854775807) (hk : 4096 < k) :
  Tl (eInv env (k + 3) (.func 68) #[] #[.int .i64 kind,v] h) fun r=>r.1 = .int .i64 (segE kind l) ∧ Grow h r.2:=by
 rw [F68_call]
 unfold F68 segE
 have hv : ∀ h' : AH,pLen prog #[34] v h' = some (.int .i64 l.length):=fun h'=>A.len
 with_reducible refine Tl.call' (Stt.init (P:=prog) h) (f70c (k:=k) kind h) fun h1 S1 _=>?_
 by_cases p : 1 ≤ kind ∧ kind ≤ 3
 ·rw [if_pos p]
  have cs:=fun a=>codSome p (a:=a)
  by_cases q : l.length > 4096
  ·rw [if_pos q]
   with_reducible repeat (first | (apply qzV; simp (disch:=omega) only [zA,bzS4.1,cs,hv] <;> rfl) | apply qzT | apply qzF | apply qzG | ((first | apply qzB | apply qzC); simp (disch:=omega) only [zA,bzS4.1,cs,hv] <;> rfl))
   exact ⟨_,rfl,rfl,S1.grow⟩
  ·rw [if_neg q]
   with_reducible repeat (first | (apply qzV; simp (disch:=omega) only [zA,bzS4.1,cs,hv] <;> rfl) | apply qzT | apply qzF | apply qzG | ((first | apply qzB | apply qzC); simp (disch:=omega) only [zA,bzS4.1,cs,hv] <;> rfl))
   refine f68_loop (k:=k + 1) (i:=0) A (by omega) l.length (by omega) (by omega) S1 (fun h2 y1 y2 y3 y4 g z=>⟨_,rfl,?_,g⟩) fun h2 g z=>⟨_,rfl,rfl,g⟩
   rw [List.drop_zero] at z
   rw [z]
 ·rw [if_neg p,codV_none p]
  with_reducible repeat (first | (apply qzV; simp (disch:=omega) only [zA,bzS4.1,codNone] <;> rfl) | apply qzT | apply qzF | apply qzG | ((first | apply qzB | apply qzC); simp (disch:=omega) only [zA,bzS4.1,codNone] <;> rfl))
  exact ⟨_,rfl,rfl,S1.grow⟩
end Go.Proofs.YtlbmlncdjkdoaaaGreat.Sh
/- What the functions of the nulls' package come to: 'count', 'Spread', 'Same'. -/
set_option linter.unusedVariables false
set_option linter.unusedSimpArgs false
set_option maxRecDepth 100000
namespace Go.Proofs.YtlbmlncdjkdoaaaGreat.Sh
open Go Go.RowKit Go.Proofs.Ev
open Tryz (prog)
def bzNa:=PLift.up (ai @ld3 (ai @ld4 (ai @ld5 (ai @ld92 (ai @ld24 (ai @ld93 (ai (fun ox oy a b=>bin_eql_bool (ox:=ox) (oy:=oy) (a:=a) (b:=b) u4) ((fun ox oy a b=>bin_neq_bool (ox:=ox) (oy:=oy) (a:=a) (b:=b) u4)))))))))
def bv (b : Bool) : Value:=.bool b
def Bools (h : AH) (v : Value) (l : List Bool) : Prop:=Sl1 prog h v bv l
def cnt (l : List Bool) : Nat:=l.count true
theorem cnt_le (l : List Bool) : cnt l ≤ l.length:=List.count_le_length
theorem drop_cons {α : Type} {l : List α} {i : Nat} {x : α} (h : l[i]? = some x) : l.drop i = x :: l.drop (i + 1):=by
 have hlt : i < l.length:=(List.getElem?_eq_some_iff.1 h).1
 rw [List.drop_eq_getElem_cons hlt]
 rw [List.getElem?_eq_getElem hlt] at h
 cases h; rfl
theorem f117_loop {β : Type} {k : Nat} {Q : β→Prop} {h : AH} {v : Value} {l : List Bool} (S : Bools h v l) (hl : l.length ≤ 2 ^ 40) {ke0 : Value→Value→Value→Value→Value→AH→Option β} (n : Nat) :
  ∀ {i j c : Nat},i + n = l.length→n < j→c ≤ i→c + cnt (l.drop i) = cnt l →
   (∀ y y',Tl (ke0 (.int .i64 (cnt l)) v (.int .i64 l.length) y y' h) Q) →
   Tl (F117_lrlr (eInv env k) k j (.int .i64 c) v (.int .i64 l.length) (.int .i64 i) h ke0) Q:=by
 induction n with
 | zero =>
  intro i j c hi hj hc hs hk
  obtain ⟨j,rfl⟩ : ∃ q,j = q + 1:=⟨j - 1,by omega⟩
  simp only [F117_lrlr]
  with_reducible repeat (first | (apply qzV; simp (disch:=omega) only [zA,bzNa.1] <;> rfl) | apply qzT | apply qzF | (apply qzB; simp (disch:=omega) only [zA,bzNa.1] <;> rfl))
  rw [List.drop_eq_nil_of_le (by omega)] at hs
  have : c = cnt l:=by simpa [cnt] using hs
  rw [this]
  exact hk _ _
 | succ n ih =>
  intro i j c hi hj hc hs hk
  obtain ⟨j,rfl⟩ : ∃ q,j = q + 1:=⟨j - 1,by omega⟩
  have hlt : i < l.length:=by omega
  obtain ⟨x,hx⟩ : ∃ x,l[i]? = some x:=⟨_,List.getElem?_eq_getElem hlt⟩
  obtain ⟨b,o,hp,hc1⟩:=Sl1.at_ S (t:=119) (k:=.i64) hx (by kernel_rfl) sz4
  have hc1:=hc1 h (Grow.refl _)
  rw [drop_cons hx] at hs
  simp only [F117_lrlr]
  unfold F117_lrrllrlr
  with_reducible repeat (first | (apply qzV; simp (disch:=omega) only [zA,bzNa.1,hp,hc1,bv] <;> rfl) | apply qzT | apply qzF | (apply qzB; simp (disch:=omega) only [zA,bzNa.1,hp,hc1,bv] <;> rfl))
  have e : (i : Int) + 1 = ((i + 1 : Nat) : Int):=by omega
  cases x
  ·with_reducible repeat (first | (apply qzV; simp (disch:=omega) only [zA,bzNa.1] <;> rfl) | apply qzT | apply qzF | (apply qzB; simp (disch:=omega) only [zA,bzNa.1] <;> rfl))
   rw [e]
   exact ih (by omega) (by omega) (by omega) (by simpa [cnt] using hs) hk
  ·have e2 : (c : Int) + 1 = ((c + 1 : Nat) : Int):=by omega
   with_reducible repeat (first | (apply qzV; simp (disch:=omega) only [zA,bzNa.1] <;> rfl) | apply qzT | apply qzF | (apply qzB; simp (disch:=omega) only [zA,bzNa.1] <;> rfl))
   rw [e,e2]
   exact ih (by omega) (by omega) (by omega) (by simp [cnt] at hs ⊢; omega) hk
theorem f117c {k : Nat} {h : AH} {v : Value} {l : List Bool} (S : Bools h v l) (hl : l.length ≤ 2 ^ 40) (hk : l.length < k) : eInv env (k + 1) (.func 117) #[] #[v] h = some (.int .i64 (cnt l),h):=by
 have T : Tl (F117 (eInv env k) k v h) fun r=>r = (.int .i64 (cnt l),h):=by
  unfold F117
  have hlen : ∀ h',pLen prog #[119] v h' = some (.int .i64 l.length):=fun h'=>Sl1.len S (e:=4) (by kernel_rfl)
  with_reducible repeat (first | (apply qzV; simp (disch:=omega) only [zA,bzNa.1,hlen] <;> rfl) | apply qzT | apply qzF | (apply qzB; simp (disch:=omega) only [zA,bzNa.1,hlen] <;> rfl))
  exact f117_loop S hl l.length (i:=0) (c:=0) (by omega) (by omega) (by omega) (by simp) fun y y'=>⟨_,rfl,rfl⟩
 obtain ⟨r,h1,h2⟩:=T
 rw [F117_call,h1,h2]
theorem f96c {k : Nat} {h : AH} {v : Value} {l : List Bool} (S : Bools h v l) (hl : l.length ≤ 2 ^ 40) (hk : l.length < k) : eInv env (k + 2) (.func 96) #[] #[v] h = some (.int .i64 (cnt l),h):=by
 rw [F96_call]
 unfold F96
 rw [f117c S hl hk]
 rfl
def brows (l : List Bool) : List (List Value):=l.map fun z=>[bv z]
theorem brows_len (l : List Bool) : (brows l).length = l.length:=List.length_map ..
end Go.Proofs.YtlbmlncdjkdoaaaGreat.Sh
