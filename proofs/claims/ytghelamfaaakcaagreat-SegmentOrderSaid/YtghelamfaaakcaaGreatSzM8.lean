/- What lies ahead of the law, put together. -/
import Derived.Test.YtghelamfaaakcaaGreatSzM7
import Derived.Test.YtghelamfaaakcaaGreatSzM6
import Derived.Test.YtghelamfaaakcaaGreatSzM1
import Derived.OpenShut
/- 'SegmentOrder' comes to true. -/
set_option linter.unusedVariables false
set_option linter.unusedSimpArgs false
set_option maxRecDepth 100000
namespace Go.Proofs.YtghelamfaaakcaaGreat.Sh
open Go Go.RowKit Go.Proofs.Ev Go.Lib
/-! ### Zones held against each other -/
theorem stZ : Tryz.prog.underlying 38 = some (.struct (Tryz.prog.fieldsOf 38)):=by kernel_rfl
theorem egZ : Tryz.prog.eqGuardType Tryz.prog.depth 38 = false:=by kernel_rfl
theorem shZ : Tryz.prog.stoodInHeld 38 = false:=by kernel_rfl
theorem fsZ : (Tryz.prog.fieldsOf 38).toList = [{ name := "Count", type := 3, offset := 0, embedded := false, tag := "", pkgPath := "", byteOffset := 0 }, { name := "Nulls", type := 3, offset := 1, embedded := false, tag := "", pkgPath := "", byteOffset := 8 }, { name := "Min", type := 31, offset := 2, embedded := false, tag := "", pkgPath := "", byteOffset := 16 }, { name := "Max", type := 31, offset := 5, embedded := false, tag := "", pkgPath := "", byteOffset := 48 }] := by kernel_rfl
theorem ptZ_0 (z : ZoneD) : prun Tryz.prog (part 3 (zl z).toArray 0) = some (.int .i64 z.cnt):=by kernel_rfl
theorem ptZ_1 (z : ZoneD) : prun Tryz.prog (part 3 (zl z).toArray 1) = some (.int .i64 z.nul):=by kernel_rfl
theorem ptZ_2 (z : ZoneD) : prun Tryz.prog (part 31 (zl z).toArray 2) = some z.mn.v:=by kernel_rfl
theorem ptZ_3 (z : ZoneD) : prun Tryz.prog (part 31 (zl z).toArray 5) = some z.mx.v:=by kernel_rfl
theorem zone_ext {a b : ZoneD} : a = b ↔ a.cnt = b.cnt ∧ a.nul = b.nul ∧ a.mn = b.mn ∧ a.mx = b.mx:=by
 constructor
 ·rintro rfl; exact ⟨rfl,rfl,rfl,rfl⟩
 ·rintro ⟨h1,h2,h3,h4⟩
  cases a; cases b
  simp only at h1 h2 h3 h4
  subst h1; subst h2; subst h3; subst h4
  rfl
theorem eqZ (d : Nat) (a b : ZoneD) : prun Tryz.prog (Op.equalIn (d + 3) 38 (zv a) (zv b)) = some (decide (a = b)):=by
 unfold zv
 rw [prun_equal_struct stZ shZ,fsZ]
 simp only [prunFields,ne_eq,String.reduceEq,not_false_eq_true,if_true,ptZ_0,ptZ_1,ptZ_2,ptZ_3,Option.bind_some,prun_equal_int u3,eqC]
 rw [show (decide (a = b)) = decide (a.cnt = b.cnt ∧ a.nul = b.nul ∧ a.mn = b.mn ∧ a.mx = b.mx) from decide_eq_decide.2 zone_ext]
 by_cases h1 : a.cnt = b.cnt
 ·by_cases h2 : a.nul = b.nul
  ·by_cases h3 : a.mn = b.mn
   ·by_cases h4 : a.mx = b.mx
    ·simp [h1,h2,h3,h4]
    ·simp [h1,h2,h3,h4]
   ·simp [h1,h2,h3]
  ·have : (a.nul == b.nul) = false:=by simpa using h2
   simp [h1,h2,this]
 ·have : (a.cnt == b.cnt) = false:=by simpa using h1
  simp [h1,this]
theorem eqlZ (a b : ZoneD) {x y : Operand} : pBin Tryz.prog .eql 38 x y (zv a) (zv b) = some (.bool (decide (a = b))):=bin_eql_agg rfl rfl egZ (eqZ 9997 a b)
/-! ### The plain law -/
theorem segE_perm {kind : Int} {l m : List CellD} (h : l.Perm m) : segE kind l = 0 ↔ segE kind m = 0:=by
 rw [segE_zero,segE_zero,h.length_eq]
 exact ⟨fun q=>⟨q.1,q.2.1,fun c hc=>q.2.2 c (h.mem_iff.2 hc)⟩,fun q=>⟨q.1,q.2.1,fun c hc=>q.2.2 c (h.mem_iff.1 hc)⟩⟩
theorem segE_twice {kind : Int} {l : List CellD} (hl : l.length ≤ 60) : segE kind l = 0 ↔ segE kind (l ++ l) = 0:=by
 rw [segE_zero,segE_zero,List.length_append]
 refine ⟨fun q=>⟨q.1,by omega,fun c hc=>?_⟩,fun q=>⟨q.1,by omega,fun c hc=>q.2.2 c (List.mem_append_left _ hc)⟩⟩
 rcases List.mem_append.1 hc with hc | hc <;> exact q.2.2 c hc
theorem ofZ_perm {l m : List CellD} (h : l.Perm m) (hl : l.length ≤ 60) : ofZ l = ofZ m:=by
 have hv : (vals l).Perm (vals m):=h.filter _
 rw [ofZ_rep l (by omega),ofZ_rep m (by have:=h.length_eq; omega)]
 unfold repZ
 by_cases q : vals l = []
 ·have q2 : vals m = []:=by rw [q] at hv; exact hv.nil_eq.symm
  rw [q,q2,h.length_eq]
 ·have q2 : vals m ≠ []:=fun z=>q (by rw [z] at hv; exact hv.eq_nil)
  have m1:=mnL_spec q2
  have m2:=mxL_spec q2
  rw [mnL_unique (hv.mem_iff.2 m1.1) (fun x hx=>m1.2 x (hv.mem_iff.1 hx)),mxL_unique (hv.mem_iff.2 m2.1) (fun x hx=>m2.2 x (hv.mem_iff.1 hx)),h.length_eq,hv.length_eq]
theorem swap_perm {l : List CellD} {a b : Nat} {x y : CellD} (ha : l[a]? = some x) (hb : l[b]? = some y) : l.Perm ((l.set a y).set b x):=by
 have e : ∀ (l : List CellD) (i : Nat) (x y : CellD),l[i]? = some x→(x :: l.set i y).Perm (y :: l):=by
  intro l
  induction l with
  | nil=>intro i x y h; simp at h
  | cons c l ih =>
   intro i x y h
   cases i with
   | zero =>
    simp only [List.getElem?_cons_zero,Option.some.injEq] at h
    subst h
    exact .swap _ _ _
   | succ i =>
    simp only [List.getElem?_cons_succ] at h
    rw [List.set_cons_succ]
    exact (List.Perm.swap _ _ _).trans (((ih i x y h).cons c).trans (.swap _ _ _))
 by_cases q : a = b
 ·subst q
  rw [hb] at ha
  cases ha
  have hlt:=(List.getElem?_eq_some_iff.1 hb).1
  rw [List.set_set]
  have : l.set a x = l:=by
   apply List.ext_getElem?
   intro j
   by_cases q : a = j
   ·subst q; rw [List.getElem?_set_self hlt,hb]
   ·rw [List.getElem?_set_ne q]
  rw [this]
 ·have h1:=e l a x y ha
  have hb2 : (l.set a y)[b]? = some y:=by rw [List.getElem?_set_ne q]; exact hb
  have h2:=e (l.set a y) b y x hb2
  exact ((h2.trans h1).cons_inv).symm
end Go.Proofs.YtghelamfaaakcaaGreat.Sh
/- 'SegmentOrder' comes to true: the walk. -/
set_option linter.unusedVariables false
set_option linter.unusedSimpArgs false
set_option maxRecDepth 100000
namespace Go.Proofs.YtghelamfaaakcaaGreat.Sh
open Go Go.RowKit Go.Proofs.Ev Go.Lib
theorem bzS16 : type_of% (And.intro @ld3 (And.intro @ld2 (And.intro @ld9 (And.intro @ld4 (And.intro @ld31 (And.intro @ld38 (And.intro @fa31_0 (And.intro @fa31_1 (And.intro @fa31_2 (And.intro (fun ox oy a b=>bin_eql_bool (ox:=ox) (oy:=oy) (a:=a) (b:=b) u4) (And.intro (fun ox oy a b=>bin_neq_bool (ox:=ox) (oy:=oy) (a:=a) (b:=b) u4) (And.intro @aggC (And.intro @aggZ (And.intro @ex2_0 (And.intro @ex2_1 (And.intro @ex3_0 (And.intro @ex3_1 (And.intro @ex3_2 (@Nat.add_zero))))))))))))))))))):=And.intro @ld3 (And.intro @ld2 (And.intro @ld9 (And.intro @ld4 (And.intro @ld31 (And.intro @ld38 (And.intro @fa31_0 (And.intro @fa31_1 (And.intro @fa31_2 (And.intro (fun ox oy a b=>bin_eql_bool (ox:=ox) (oy:=oy) (a:=a) (b:=b) u4) (And.intro (fun ox oy a b=>bin_neq_bool (ox:=ox) (oy:=oy) (a:=a) (b:=b) u4) (And.intro @aggC (And.intro @aggZ (And.intro @ex2_0 (And.intro @ex2_1 (And.intro @ex3_0 (And.intro @ex3_1 (And.intro @ex3_2 (@Nat.add_zero))))))))))))))))))
theorem own_at {n0 : Nat} {h0 h : AH} {L : List (Nat × AO)} {O : List OS} {v : Value} {l : List CellD} (S : Stt Tryz.prog n0 h0 h L O) (i : Nat) (hi : O[i]? = some (v,3,crows l)) {j : Nat} {c : CellD} (hc : l[j]? = some c) :
  ∃ bm,blkOf v = some bm ∧ pIndexAddr Tryz.prog 22 v (.int .i64 j) = some (.pointer (some ⟨bm,j * 3,none⟩)) ∧ h.row bm (j * 3) 3 = some (crow c):=by
 have hlt:=(List.getElem?_eq_some_iff.1 hc).1
 obtain ⟨bm,em,hm⟩:=S.idx (t:=22) i hi (kd:=.i64) (j:=j) (by rw [crows_len]; exact hlt) u22 sz31
 have A : Cells h v l:=(S.slV i hi).z
 obtain ⟨b,o,hx,hr⟩:=A.at_ hc
 have:=hm.symm.trans hx
 simp only [Option.some.injEq,Value.pointer.injEq,Addr.mk.injEq] at this
 obtain ⟨e1,e2,_⟩:=this
 subst e1; subst e2
 exact ⟨_,em,hm,hr⟩
theorem f5 {k : Nat} {h : AH} {v : Value} {l : List CellD} (A : Cells h v l) (hl : l.length ≤ 9223372036854775807) (hi : ∀ c ∈ l,i64in c.i) (kind za zb : Int) (ha : -9223372036854775808 ≤ za ∧ za ≤ 9223372036854775807) (hb : -9223372036854775808 ≤ zb ∧ zb ≤ 9223372036854775807) :
  Tl (F5 (eInv env (k + 26000)) (k + 26000) (.int .i64 kind) v (.int .i64 za) (.int .i64 zb) h) fun r=>r.1 = .bool true:=by
 unfold F5
 obtain ⟨bl,el,hbl⟩:=f10t (k:=k + 25998) A hl (by omega)
 have hlv:=lives_call (k:=k + 25999) (h:=h)
 cases bl
 ·repeat (first | (with_reducible apply qzV; simp (disch:=omega) only [coreA,Int.reduceBEq,bzS16,hlv,el] <;> with_reducible rfl) | (with_reducible first | apply qzT | apply qzF | apply qzG | apply qzH) | ((with_reducible first | apply qzB | apply qzC | apply qzD); simp (disch:=omega) only [coreA,Int.reduceBEq,bzS16,hlv,el] <;> with_reducible rfl))
  exact ⟨_,rfl,rfl⟩
 obtain ⟨hl,htot⟩:=hbl rfl
 have hv : ∀ h' : AH,pLen Tryz.prog #[22] v h' = some (.int .i64 l.length):=fun h'=>A.len
 by_cases q0 : l.length = 0
 ·repeat (first | (with_reducible apply qzV; simp (disch:=omega) only [coreA,Int.reduceBEq,bzS16,hlv,el,hv] <;> with_reducible rfl) | (with_reducible first | apply qzT | apply qzF | apply qzG | apply qzH) | ((with_reducible first | apply qzB | apply qzC | apply qzD); simp (disch:=omega) only [coreA,Int.reduceBEq,bzS16,hlv,el,hv] <;> with_reducible rfl))
  exact ⟨_,rfl,rfl⟩
 obtain ⟨a,ha1,ea⟩:=f12c (k:=k + 25999) za ha (n:=l.length) (by omega) (by omega) h
 obtain ⟨b,hb1,eb⟩:=f12c (k:=k + 25999) zb hb (n:=l.length) (by omega) (by omega) h
 repeat (first | (with_reducible apply qzV; simp (disch:=omega) only [coreA,Int.reduceBEq,bzS16,hlv,el,hv,ea,eb] <;> with_reducible rfl) | (with_reducible first | apply qzT | apply qzF | apply qzG | apply qzH) | ((with_reducible first | apply qzB | apply qzC | apply qzD); simp (disch:=omega) only [coreA,Int.reduceBEq,bzS16,hlv,el,hv,ea,eb] <;> with_reducible rfl))
 refine Tl.bind (f18c (k:=k + 25999) (Stt.init h) A (by omega)) ?_
 rintro ⟨mv,h1⟩ S1
 simp only at S1
 obtain ⟨x,hx⟩ : ∃ x,l[a]? = some x:=⟨_,List.getElem?_eq_getElem ha1⟩
 obtain ⟨y,hy⟩ : ∃ y,l[b]? = some y:=⟨_,List.getElem?_eq_getElem hb1⟩
 obtain ⟨bm,em,ix,rx⟩:=own_at S1 0 rfl hx
 obtain ⟨bm2,em2,iy,ry⟩:=own_at S1 0 rfl hy
 have hbb : bm2 = bm:=by rw [em] at em2; exact (Option.some.inj em2).symm
 subst hbb
 repeat (first | (with_reducible apply qzV; simp (disch:=omega) only [coreA,Int.reduceBEq,bzS16,ix,iy,rx,ry] <;> with_reducible rfl) | (with_reducible first | apply qzT | apply qzF | apply qzG | apply qzH) | ((with_reducible first | apply qzB | apply qzC | apply qzD); simp (disch:=omega) only [coreA,Int.reduceBEq,bzS16,ix,iy,rx,ry] <;> with_reducible rfl))
 refine Tl.setAt S1 0 rfl em (by rw [crows_len]; exact ha1) rfl sz31 rfl fun h2 S2=>?_
 have S2 : Stt Tryz.prog h.n h h2 [] [(mv,3,crows (l.set a y))]:=by
  have e : (crows l).set a y.v.cells.toList = crows (l.set a y):=by simp [crows,List.map_set]; rfl
  rw [← e]; exact S2
 repeat (first | (with_reducible apply qzV; simp (disch:=omega) only [coreA,Int.reduceBEq,bzS16,iy] <;> with_reducible rfl) | (with_reducible first | apply qzT | apply qzF | apply qzG | apply qzH) | ((with_reducible first | apply qzB | apply qzC | apply qzD); simp (disch:=omega) only [coreA,Int.reduceBEq,bzS16,iy] <;> with_reducible rfl))
 refine Tl.setAt S2 0 rfl em2 (by rw [crows_len,List.length_set]; exact hb1) rfl sz31 rfl fun h3 S3=>?_
 have S3 : Stt Tryz.prog h.n h h3 [] [(mv,3,crows ((l.set a y).set b x))]:=by
  have e : (crows (l.set a y)).set b x.v.cells.toList = crows ((l.set a y).set b x):=by simp [crows,List.map_set]; rfl
  rw [← e]; exact S3
 have hp:=swap_perm hx hy
 generalize (l.set a y).set b x = m at S3 hp
 have hml:=hp.length_eq
 have A3 : Cells h3 v l:=A.grow S3.grow
 with_reducible refine Tl.call' S3 (f13c (k:=k + 25299) kind A3 (by omega) (by omega)) fun h4 S4 g4=>?_
 have M4 : Cells h4 mv m:=(S4.slV 0 rfl).z
 repeat (first | (with_reducible apply qzV; simp (disch:=omega) only [coreA,Int.reduceBEq,bzS16] <;> with_reducible rfl) | (with_reducible first | apply qzT | apply qzF | apply qzG | apply qzH) | ((with_reducible first | apply qzB | apply qzC | apply qzD); simp (disch:=omega) only [coreA,Int.reduceBEq,bzS16] <;> with_reducible rfl))
 with_reducible refine Tl.call' S4 (f13c (k:=k + 25299) kind M4 (by omega) (by omega)) fun h5 S5 g5=>?_
 repeat (first | (with_reducible apply qzV; simp (disch:=omega) only [coreA,Int.reduceBEq,bzS16] <;> with_reducible rfl) | (with_reducible first | apply qzT | apply qzF | apply qzG | apply qzH) | ((with_reducible first | apply qzB | apply qzC | apply qzD); simp (disch:=omega) only [coreA,Int.reduceBEq,bzS16] <;> with_reducible rfl))
 refine Tl.bind (f18c (k:=k + 25999) S5 (A.grow S5.grow) (by omega)) ?_
 rintro ⟨uv,h6⟩ S6
 simp only at S6
 obtain ⟨uv2,h7,e7,S7⟩:=S6.appendZ 0 rfl appCs (A.grow S6.grow) (by rw [crows_len,List.length_map]; omega) (one_crws l)
 have S7 : Stt Tryz.prog h.n h h7 [] [(uv2,3,crows (l ++ l)),(mv,3,crows m)]:=by
  have e : crows l ++ l.map crow = crows (l ++ l):=by simp [crows]
  rw [← e]; exact S7
 repeat (first | (with_reducible apply qzV; simp (disch:=omega) only [coreA,Int.reduceBEq,bzS16,e7] <;> with_reducible rfl) | (with_reducible first | apply qzT | apply qzF | apply qzG | apply qzH) | ((with_reducible first | apply qzB | apply qzC | apply qzD); simp (disch:=omega) only [coreA,Int.reduceBEq,bzS16,e7] <;> with_reducible rfl))
 have U7 : Cells h7 uv2 (l ++ l):=(S7.slV 0 rfl).z
 with_reducible refine Tl.call' S7 (f13c (k:=k + 25299) kind U7 (by rw [List.length_append]; omega) (by omega)) fun h8 S8 g8=>?_
 repeat (first | (with_reducible apply qzV; simp (disch:=omega) only [coreA,Int.reduceBEq,bzS16] <;> with_reducible rfl) | (with_reducible first | apply qzT | apply qzF | apply qzG | apply qzH) | ((with_reducible first | apply qzB | apply qzC | apply qzD); simp (disch:=omega) only [coreA,Int.reduceBEq,bzS16] <;> with_reducible rfl))
 have p1:=segE_perm (kind:=kind) hp
 have p2:=segE_twice (kind:=kind) hl
 by_cases q1 : ¬ segE kind l = 0
 ·have q2 : ¬ segE kind m = 0:=fun z=>q1 (p1.2 z)
  have q3 : ¬ segE kind (l ++ l) = 0:=fun z=>q1 (p2.2 z)
  have d1 : (segE kind l == 0) = false:=beq_f q1
  have d2 : (segE kind m == 0) = false:=beq_f q2
  have d3 : (segE kind (l ++ l) == 0) = false:=beq_f q3
  have d4 : (segE kind l != 0) = true:=bne_t q1
  repeat (first | (with_reducible apply qzV; simp (disch:=omega) only [coreA,Int.reduceBEq,bzS16,d1,d2,d3,d4] <;> with_reducible rfl) | (with_reducible first | apply qzT | apply qzF | apply qzG | apply qzH) | ((with_reducible first | apply qzB | apply qzC | apply qzD); simp (disch:=omega) only [coreA,Int.reduceBEq,bzS16,d1,d2,d3,d4] <;> with_reducible rfl))
  exact ⟨_,rfl,rfl⟩
 have q1 : segE kind l = 0:=Classical.not_not.1 q1
 have q2:=p1.1 q1
 have q3:=p2.1 q1
 rw [q1,q2,q3,if_pos rfl,if_pos rfl,if_pos rfl]
 obtain ⟨hkd,_,hall⟩:=segE_zero.1 q1
 have ht:=htot fun c hc=>cellE_size (hall c hc).1
 have l1:=segB_len q1 (by omega) (by omega)
 have l2:=segB_len q2 (by omega) (by rw [← tot_perm hp]; omega)
 have l3:=segB_len q3 (by rw [List.length_append]; omega) (by rw [tot_app]; omega)
 have o1:=open_put q1 hi []
 have o2:=open_put q2 (fun c hc=>hi c (hp.mem_iff.2 hc)) []
 have o3:=open_put q3 (fun c hc=>by rcases List.mem_append.1 hc with hc | hc <;> exact hi c hc) []
 rw [List.append_nil] at o1 o2 o3
 repeat (first | (with_reducible apply qzV; simp (disch:=omega) only [coreA,Int.reduceBEq,bzS16] <;> with_reducible rfl) | (with_reducible first | apply qzT | apply qzF | apply qzG | apply qzH) | ((with_reducible first | apply qzB | apply qzC | apply qzD); simp (disch:=omega) only [coreA,Int.reduceBEq,bzS16] <;> with_reducible rfl))
 refine Tl.bind (f15c (k:=k + 23999) (segB_256 hkd l) (by omega) (by omega)) ?_
 rintro ⟨r,h9⟩ ⟨⟨kd,lz,z1,rest,ho,er⟩ | ⟨ho,er⟩,g9⟩
 rotate_left
 ·rw [o1] at ho; cases ho
 rw [o1] at ho
 cases ho
 simp only at er g9
 subst er
 have S9:=S8.call g9
 repeat (first | (with_reducible apply qzV; simp (disch:=omega) only [coreA,Int.reduceBEq,bzS16] <;> with_reducible rfl) | (with_reducible first | apply qzT | apply qzF | apply qzG | apply qzH) | ((with_reducible first | apply qzB | apply qzC | apply qzD); simp (disch:=omega) only [coreA,Int.reduceBEq,bzS16] <;> with_reducible rfl))
 refine Tl.alloc' S9 ze38 rfl fun b17 h10 S10 _=>?_
 refine Tl.store' S10 0 rfl sz38 rfl rfl (of_decide_eq_true rfl) fun h11 S11 _=>?_
 have S11 : Stt Tryz.prog h.n h h11 [Zr b17 (ofZ l)] _:=S11
 refine Tl.bind (f15c (k:=k + 23999) (segB_256 hkd m) (by omega) (by omega)) ?_
 rintro ⟨r,h12⟩ ⟨⟨kd,lz,z1,rest,ho,er⟩ | ⟨ho,er⟩,g12⟩
 rotate_left
 ·rw [o2] at ho; cases ho
 rw [o2] at ho
 cases ho
 simp only at er g12
 subst er
 have S12:=S11.call g12
 repeat (first | (with_reducible apply qzV; simp (disch:=omega) only [coreA,Int.reduceBEq,bzS16] <;> with_reducible rfl) | (with_reducible first | apply qzT | apply qzF | apply qzG | apply qzH) | ((with_reducible first | apply qzB | apply qzC | apply qzD); simp (disch:=omega) only [coreA,Int.reduceBEq,bzS16] <;> with_reducible rfl))
 refine Tl.alloc' S12 ze38 rfl fun b20 h13 S13 _=>?_
 refine Tl.store' S13 0 rfl sz38 rfl rfl (of_decide_eq_true rfl) fun h14 S14 _=>?_
 have S14 : Stt Tryz.prog h.n h h14 [Zr b20 (ofZ m),Zr b17 (ofZ l)] _:=S14
 refine Tl.bind (f15c (k:=k + 23999) (segB_256 hkd (l ++ l)) (by omega) (by omega)) ?_
 rintro ⟨r,h15⟩ ⟨⟨kd,lz,z1,rest,ho,er⟩ | ⟨ho,er⟩,g15⟩
 rotate_left
 ·rw [o3] at ho; cases ho
 rw [o3] at ho
 cases ho
 simp only at er g15
 subst er
 have S15:=S14.call g15
 repeat (first | (with_reducible apply qzV; simp (disch:=omega) only [coreA,Int.reduceBEq,bzS16] <;> with_reducible rfl) | (with_reducible first | apply qzT | apply qzF | apply qzG | apply qzH) | ((with_reducible first | apply qzB | apply qzC | apply qzD); simp (disch:=omega) only [coreA,Int.reduceBEq,bzS16] <;> with_reducible rfl))
 refine Tl.alloc' S15 ze38 rfl fun b23 h16 S16 _=>?_
 refine Tl.store' S16 0 rfl sz38 rfl rfl (of_decide_eq_true rfl) fun h17 S17 _=>?_
 have S17 : Stt Tryz.prog h.n h h17 [Zr b23 (ofZ (l ++ l)),Zr b20 (ofZ m),Zr b17 (ofZ l)] _:=S17
 have e1 : ofZ m = ofZ l:=(ofZ_perm hp hl).symm
 have e2 : joinZ (ofZ l) (ofZ l) = ofZ (l ++ l):=joinZ_of l l (by omega) (by omega)
 rw [e1] at S17
 have r23:=(z_at S17 0 rfl).all
 have r20:=(z_at S17 1 rfl).all
 have r17:=(z_at S17 2 rfl).all
 have ez : ∀ (z : ZoneD) x y,pBin Tryz.prog .eql 38 x y (zv z) (zv z) = some (.bool true):=fun z x y=>by rw [eqlZ]; simp
 repeat (first | (with_reducible apply qzV; simp (disch:=omega) only [coreA,Int.reduceBEq,bzS16,r23,r20,r17,ez] <;> with_reducible rfl) | (with_reducible first | apply qzT | apply qzF | apply qzG | apply qzH) | ((with_reducible first | apply qzB | apply qzC | apply qzD); simp (disch:=omega) only [coreA,Int.reduceBEq,bzS16,r23,r20,r17,ez] <;> with_reducible rfl))
 with_reducible refine Tl.call' S17 (f19c (k:=k + 25988) (ofZ l) (ofZ l) h17) fun h18 S18 _=>?_
 rw [e2]
 have t23:=(z_at S18 0 rfl).all
 repeat (first | (with_reducible apply qzV; simp (disch:=omega) only [coreA,Int.reduceBEq,bzS16,ez] <;> with_reducible rfl) | (with_reducible first | apply qzT | apply qzF | apply qzG | apply qzH) | ((with_reducible first | apply qzB | apply qzC | apply qzD); simp (disch:=omega) only [coreA,Int.reduceBEq,bzS16,ez] <;> with_reducible rfl))
 with_reducible refine Tl.chk ?_ ?_
 ·simp only [ld38,r23,t23,Option.map_some,aggZ,sameO_some,sameZ,Bool.and_self,Bool.not_true,Bool.or_true,Bool.true_and,Bool.false_or]
 exact ⟨_,rfl,rfl⟩
end Go.Proofs.YtghelamfaaakcaaGreat.Sh
/- Cells, rows and predicates that are handed in. -/
set_option linter.unusedVariables false
set_option linter.unusedSimpArgs false
set_option maxRecDepth 100000
namespace Go.Proofs.YtghelamfaaakcaaGreat.Sh
open Go Go.RowKit Go.ChangeShapes Go.WideShapes Go.Proofs.Ev
theorem fld {H : Type} {enc : TypeId × Value→H} {W : World} {base n : Nat} {sp : Nat→Bool} {held : Bool} {fs : Array Field} {cs : List Value} {xs : List (DataW H × List MemPlace)} (i t o : Nat) (h : (fs[i]?).map (fun f=>(f.type,f.offset)) = some (t,o))
  (hf : ∀ (i : Nat) (f : Field),fs[i]? = some f→DataW.trod enc Tryz.prog W base sp held n f.type ((cs.drop f.offset).take (Tryz.prog.cellsOf f.type)) = xs[i]?) : DataW.trod enc Tryz.prog W base sp held n t ((cs.drop o).take (Tryz.prog.cellsOf t)) = xs[i]?:=by
 cases hh : fs[i]? with
 | none=>rw [hh] at h; cases h
 | some f =>
  rw [hh] at h
  simp only [Option.map_some,Option.some.injEq,Prod.mk.injEq] at h
  obtain ⟨rfl,rfl⟩:=h
  exact hf i f hh
theorem co3 : Tryz.prog.cellsOf 3 = 1:=by kernel_rfl
theorem co2 : Tryz.prog.cellsOf 2 = 1:=by kernel_rfl
theorem co9 : Tryz.prog.cellsOf 9 = 1:=by kernel_rfl
theorem co31 : Tryz.prog.cellsOf 31 = 3:=by kernel_rfl
theorem st31 : Tryz.prog.underlying 31 = some (.struct (Tryz.prog.fieldsOf 31)):=by kernel_rfl
section
variable {H : Type} {enc : TypeId × Value→H} {W : World} {base b0 fuel : Nat} {held : Bool} {r : Reach} {cs : List Value} {v : Value} {x : DataW H × List MemPlace} {d : DataW H} {ps : List MemPlace} {sp : Nat→Bool}
theorem trod_cell (h : DataW.trod enc Tryz.prog W base sp held fuel 31 cs = some x) :
  ∃ a : CellD,cs = crow a ∧ a.s.size ≤ maxLen ∧ (Lit.int .i64 a.k).wf = true ∧ (Lit.int .i64 a.i).wf = true:=by
 obtain ⟨xs,n,rfl,rfl,hl,hx,hf⟩:=DataW.trod_struct st31 h
 rw [co31] at hl
 rw [show (Tryz.prog.fieldsOf 31).size = 3 by kernel_rfl] at hx
 have e0:=fld 0 3 0 (by kernel_rfl) hf
 have e1:=fld 1 2 1 (by kernel_rfl) hf
 have e2:=fld 2 9 2 (by kernel_rfl) hf
 obtain ⟨x0,x1,x2,rfl⟩ : ∃ x0 x1 x2,cs = [x0,x1,x2]:=by
  match cs,hl with
  | [a,b,c],_=>exact ⟨a,b,c,rfl⟩
 obtain ⟨y0,y1,y2,rfl⟩ : ∃ y0 y1 y2,xs = [y0,y1,y2]:=by
  match xs,hx with
  | [a,b,c],_=>exact ⟨a,b,c,rfl⟩
 simp only [co3,co2,co9,List.drop_zero,List.drop_succ_cons,List.take_succ_cons,List.take_zero,List.getElem?_cons_zero,List.getElem?_cons_succ] at e0 e1 e2
 obtain ⟨k,hk,_,w0⟩:=DataW.trod_int u3 e0
 obtain ⟨i,hi,_,w1⟩:=DataW.trod_int u2 e1
 obtain ⟨s,hs,_,w2⟩:=DataW.trod_string u9 e2
 simp only [List.cons.injEq,and_true] at hk hi hs
 subst hk; subst hi; subst hs
 exact ⟨⟨k,i,s⟩,rfl,w2,w0,w1⟩
theorem tame_crow (n : Nat) (a : CellD) : (crow a).map (tame n 8) = crow a:=by simp [crow,tame]
/-- The value of a slice that is handed in is what is trod. -/
theorem slice_form {t e : TypeId} (ht : Tryz.prog.underlying t = some (.slice e)) (hv : Value.okWide Tryz.prog W r b0 t v) : v.cells.toList = [v]:=by
 rcases okSlice ht hv with rfl | ⟨a,len,cap,rfl,_⟩ <;> rfl
theorem inner_cells {t : TypeId} (ht : Tryz.prog.underlying t = some (.slice 31)) (hf : DataW.trod enc Tryz.prog W base (fun _=>true) held fuel t cs = some x) :
  ∃ v l,cs = [v] ∧ Cells (extHeap W) (tame W.heap.size 8 v) l ∧ l.length ≤ maxLen ∧ ∀ a ∈ l,a.s.size ≤ maxLen ∧ (Lit.int .i64 a.k).wf = true ∧ (Lit.int .i64 a.i).wf = true:=by
 obtain ⟨v,rows,rfl,hZ,hl,hall⟩:=open_inner ht co31 (by omega) hf
 have key : ∀ rows : List (List Value),(∀ q ∈ rows,∃ fuel y,DataW.trod enc Tryz.prog W base (fun _=>true) held fuel 31 q = some y)→∃ l : List CellD,rows = l.map crow ∧ ∀ a ∈ l,a.s.size ≤ maxLen ∧ (Lit.int .i64 a.k).wf = true ∧ (Lit.int .i64 a.i).wf = true:=by
  intro rows
  induction rows with
  | nil=>intro _; exact ⟨[],rfl,fun a ha=>by cases ha⟩
  | cons q rows ih =>
   intro h
   obtain ⟨f,y,hy⟩:=h q (List.mem_cons_self ..)
   obtain ⟨a,rfl,ha⟩:=trod_cell hy
   obtain ⟨l,rfl,hl⟩:=ih fun q hq=>h q (List.mem_cons_of_mem _ hq)
   refine ⟨a :: l,rfl,fun z hz=>?_⟩
   rcases List.mem_cons.1 hz with rfl | hz
   ·exact ha
   ·exact hl z hz
 obtain ⟨l,rfl,hl2⟩:=key rows hall
 refine ⟨v,l,rfl,?_,by simpa using hl,hl2⟩
 rw [List.map_map,show ((fun q=>List.map (tame W.heap.size 8) q) ∘ crow) = crow from funext fun a=>tame_crow _ a] at hZ
 exact hZ
theorem open_cells (hv : Value.okWide Tryz.prog W r b0 22 v) (hd : DataW.Trod enc Tryz.prog W base (fun _=>true) held 22 v d ps) :
  ∃ l,Cells (extHeap W) (tame W.heap.size 8 v) l ∧ l.length ≤ maxLen ∧ ∀ a ∈ l,a.s.size ≤ maxLen ∧ (Lit.int .i64 a.k).wf = true ∧ (Lit.int .i64 a.i).wf = true:=by
 obtain ⟨fuel,hf⟩:=hd
 obtain ⟨v',l,e,h1⟩:=inner_cells u22 hf
 rw [slice_form u22 hv] at e
 cases e
 exact ⟨l,h1⟩
end
end Go.Proofs.YtghelamfaaakcaaGreat.Sh
