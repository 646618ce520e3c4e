/- What lies ahead of the law, put together. -/
import Derived.Test.YtlbmlncdjkdoaaaGreatSzM5
import Derived.Test.YtlbmlncdjkdoaaaGreatSzM1
import Derived.Lib.DecodeN
/- Segments that are put are read: zones. What 'Zone' comes to. -/
set_option linter.unusedVariables false
set_option linter.unusedSimpArgs false
set_option maxRecDepth 100000
namespace Go.Proofs.YtlbmlncdjkdoaaaGreat.Sh
open Go Go.RowKit Go.Proofs.Ev Go.Lib
open Tryz (prog)
def bzS13:=PLift.up (ai @ld3 (ai @ld2 (ai @ld9 (ai @ld4 (ai @ld39 (ai @ld53 (ai @ld104 (ai @fa53_0 (ai @fa53_1 (ai @fa53_2 (ai @fa53_3 (ai @fa104_0 (ai @fa104_1 (ai @fa104_2 (ai @fa104_3 (ai @aggC (ai @aggZ (ai @ex2_0 (ai @ex2_1 (ai @ex3_0 (ai @ex3_1 (ai @ex3_2 (@Nat.add_zero)))))))))))))))))))))))
def i64in (z : Int) : Prop:=-9223372036854775808 ≤ z ∧ z ≤ 9223372036854775807
/-! ### A value that is put is read -/
theorem rdN_put {c : CellD} (hi : i64in c.i) (r : List Nat) : rdN (oneN c ++ r) = some (c.i,r):=by
 unfold rdN oneN
 have hl:=le_len (toU c.i) 8 0
 rw [if_neg (by rw [List.length_append,hl]; omega),List.take_left' hl,List.drop_left' hl,ofB_le]
 have h256 : (256 : Nat) ^ 8 = 18446744073709551616:=by decide
 have hlt:=toU_lt c.i
 simp only [Nat.mul_zero,Nat.pow_zero,Nat.div_one,h256,Nat.mod_eq_of_lt hlt]
 unfold i64in at hi
 rw [wrap_i64']
 unfold toU
 congr 2
 split <;> omega
theorem rdT_put {c : CellD} (r : List Nat) : rdT (oneT c ++ r) = some (toU c.i % 256,r):=by
 unfold rdT oneT
 rw [if_neg (by simp)]
 simp [ofB]
theorem rdW_put {c : CellD} (hs : c.s.size ≤ 65536) (r : List Nat) : rdW (oneW c ++ r) = some (c.s,r):=by
 unfold rdW oneW
 rw [List.append_assoc,dec_pvar _ c.s.size (i:=0) (acc:=0) (.inl rfl) (by simp; omega)]
 simp only [Nat.zero_add,Nat.mul_zero,Nat.pow_zero,Nat.mul_one]
 rw [if_neg (by omega),if_neg (by rw [List.length_append,bytesN_len]; omega),List.take_left' (bytesN_len _),List.drop_left' (bytesN_len _)]
 have e : strB (bytesN c.s) = c.s:=by
  unfold strB bytesN
  rw [List.map_map]
  have e : (UInt8.ofNat ∘ UInt8.toNat) = id:=funext fun x=>by simp
  rw [e,List.map_id]
 rw [e]
theorem mkN_good {c : CellD} (h : goodC 1 c) : mkN c.i = c:=by
 have hb:=cellE_bare h.2
 unfold bare at hb
 rw [if_neg (by rw [h.1]; decide),if_pos h.1,h.1] at hb
 exact hb
theorem mkT_good {c : CellD} (h : goodC 2 c) : mkT (toU c.i % 256) = c:=by
 have h01:=good_bool h
 have hb:=cellE_bare h.2
 unfold bare at hb
 rw [if_neg (by rw [h.1]; decide),if_neg (by rw [h.1]; decide),if_pos h.1,h.1] at hb
 have hs : (.empty : ByteArray) = c.s:=congrArg CellD.s hb
 unfold mkT
 have e : IntKind.i64.wrap ((toU c.i % 256 : Nat) : Int) = c.i:=by rcases h01 with e | e <;> rw [e] <;> decide
 rw [e]
 have hbs : c.bytes = ByteArray.empty.data.toList:=by unfold CellD.bytes; rw [← hs]
 exact CellD.ext' h.1.symm rfl hbs.symm
theorem mkW_good {c : CellD} (h : goodC 3 c) : mkW c.s = c:=by
 have hb:=cellE_bare h.2
 unfold bare at hb
 rw [if_neg (by rw [h.1]; decide),if_neg (by rw [h.1]; decide),if_neg (by rw [h.1]; decide),h.1] at hb
 exact hb
theorem endB_put {kind : Int} (hk : 1 ≤ kind ∧ kind ≤ 3) {a b : CellD} (ha : goodC kind a) (hb : goodC kind b) (ia : i64in a.i) (ib : i64in b.i) (r : List Nat) : endB kind (oneB kind a ++ oneB kind b ++ r) = some (a,b,r):=by
 have h : kind = 1 ∨ kind = 2 ∨ kind = 3:=by omega
 rw [List.append_assoc]
 rcases h with rfl | rfl | rfl
 ·show endG rdN mkN (oneN a ++ (oneN b ++ r)) = _
  unfold endG
  simp only [rdN_put ia,rdN_put ib,mkN_good ha,mkN_good hb]
 ·show endG rdT mkT (oneT a ++ (oneT b ++ r)) = _
  unfold endG
  simp only [rdT_put,mkT_good ha,mkT_good hb]
 ·show endG rdW mkW (oneW a ++ (oneW b ++ r)) = _
  unfold endG
  simp only [rdW_put (cellE_size ha.2),rdW_put (cellE_size hb.2),mkW_good ha,mkW_good hb]
theorem cnt_flg (l : List CellD) : cnt (flg l) + (vals l).length = l.length:=by
 unfold cnt flg vals
 induction l with
 | nil=>rfl
 | cons c l ih =>
  rw [List.map_cons,List.count_cons,List.filter_cons,List.length_cons]
  by_cases q : c.k = 0
  ·simp [q]; omega
  ·simp [q]; omega
def restB (kind : Int) (l : List CellD) : List Nat:=if l = [] then [] else cellsB kind l
theorem open_put {kind : Int} {l : List CellD} (h : segE kind l = 0) (hi : ∀ c ∈ l,i64in c.i) (b : List Nat) : openB (segB kind l ++ b) = some (kind,flg l,ofZ l,restB kind (vals l) ++ b):=by
 obtain ⟨hk,hl,hall⟩:=segE_zero.1 h
 have hg:=good_vals hall
 have hkn : ((kind.toNat : Nat) : Int) = kind:=by omega
 have hfl : (flg l).length = l.length:=List.length_map ..
 have hc:=cnt_flg l
 have e : segB kind l ++ b = kind.toNat :: (putV (flg l) ++ (tailB kind (vals l) ++ b)):=by unfold segB; simp
 rw [e,openB,hkn,if_neg (fun q=>q hk),get_put _ _ (by omega)]
 simp only [List.drop_left]
 have ez:=ofZ_rep l (by omega)
 by_cases q : vals l = []
 ·have hz : ofZ l = ⟨(flg l).length,cnt (flg l),c0,c0⟩:=by
   rw [ez,q]
   rw [q] at hc
   simp only [List.length_nil,Nat.add_zero] at hc
   unfold repZ
   rw [hfl,hc]
   simp [mnL,mxL]
  rw [q] at hc
  simp only [List.length_nil,Nat.add_zero] at hc
  rw [if_pos (by omega),hz]
  unfold restB tailB
  rw [if_pos q,if_pos q]
 ·have hvl : 0 < (vals l).length:=List.length_pos_iff.2 q
  rw [if_neg (by omega)]
  obtain ⟨m1,m2⟩:=mn_mem (l:=vals l) (by omega) vals_ne q
  have evv : vals (vals l) = vals l:=vals_self vals_ne
  have ezv:=ofZ_rep (vals l) (by omega)
  rw [evv] at ezv
  have emn : (ofZ (vals l)).mn = (ofZ l).mn:=by rw [ez,ezv]; rfl
  have emx : (ofZ (vals l)).mx = (ofZ l).mx:=by rw [ez,ezv]; rfl
  have hmem : ∀ c ∈ vals l,c ∈ l:=fun c hc=>(List.mem_filter.1 hc).1
  have et : tailB kind (vals l) ++ b = oneB kind (ofZ l).mn ++ oneB kind (ofZ l).mx ++ (cellsB kind (vals l) ++ b):=by
   unfold tailB
   rw [if_neg q,emn,emx]
   simp
  rw [emn] at m1
  rw [emx] at m2
  rw [et,endB_put hk (hg _ m1) (hg _ m2) (hi _ (hmem _ m1)) (hi _ (hmem _ m2))]
  have hz : ofZ l = ⟨(flg l).length,cnt (flg l),(ofZ l).mn,(ofZ l).mx⟩:=by
   rw [ez]
   unfold repZ
   rw [hfl]
   congr 1
   omega
  have hle : (ofZ l).mn.cmp (ofZ l).mx ≤ 0:=by
   rw [ez]
   exact (mnL_spec q).2 _ (mxL_spec q).1
  simp only
  rw [← hz,if_pos (zoneE_zero.2 ⟨(hg _ m1).1,(hg _ m2).1,(hg _ m1).2,(hg _ m2).2,hle⟩)]
  unfold restB
  rw [if_neg q]
/-! ### 'Zone' -/
theorem f52c {k : Nat} {h : AH} {bs : List Nat} (hb : ∀ x ∈ bs,x < 256) (hl : bs.length ≤ 2 ^ 19) (hk : 7000 + bs.length < k) :
  Tl (eInv env (k + 2001) (.func 52) #[] #[.string (strB bs)] h) fun r=>((∃ kind l z rest,openB bs = some (kind,l,z,rest) ∧ r.1 = .tuple #[.int .i64 kind,zv z,.int .i64 0]) ∨ (openB bs = none ∧ r.1 = .tuple #[.int .i64 0,zv z0,.int .i64 4])) ∧ Grow h r.2:=by
 rw [F52_call]
 unfold F52
 refine Tl.alloc' (Stt.init h) ze53 rfl fun b3 h1 S1 _=>?_
 have S1 : Stt prog h.n h h1 [Zr b3 z0] []:=S1
 refine Tl.bind (f73c (k:=k) hb hl hk) ?_
 have bz0 : pBuild prog 53 #[] = some (zv z0):=by kernel_rfl
 rintro ⟨r,h2⟩ (⟨kind,l,z,rest,nv,rv,ho,er,S2⟩ | ⟨ho,kind,z,a,m,c,er,g2⟩)
 ·simp only at er S2
  subst er
  obtain ⟨a,c,eo,_⟩:=(S2.slV 0 rfl).form
  subst eo
  obtain ⟨a2,c2,eo2,_⟩:=(S2.slV 1 rfl).form
  subst eo2
  have S3:=S1.call S2.grow
  with_reducible repeat (first | (apply qzV; simp (disch:=omega) only [zA,bzS13.1] <;> rfl) | apply qzT | apply qzF | (apply qzB; simp (disch:=omega) only [zA,bzS13.1] <;> rfl))
  refine Tl.alloc' S3 ze104 rfl fun b5 h4 S4 _=>?_
  refine Tl.store' S4 0 rfl sz104 rfl rfl (of_decide_eq_true rfl) fun h5 S5 _=>?_
  have S5 : Stt prog h.n h h5 [Op b5 kind (.slice a2 (brows l).length c2) z (.slice a (u8rows rest).length c),Zr b3 z0] []:=S5
  obtain ⟨_,k5,z5,_,_⟩:=o_at S5 0 rfl
  with_reducible repeat (first | (apply qzV; simp (disch:=omega) only [zA,bzS13.1,k5,z5] <;> rfl) | apply qzT | apply qzF | (apply qzB; simp (disch:=omega) only [zA,bzS13.1,k5,z5] <;> rfl))
  refine Tl.store' S5 1 rfl sz53 rfl rfl (of_decide_eq_true rfl) fun h6 S6 _=>?_
  have S6 : Stt prog h.n h h6 [Op b5 kind (.slice a2 (brows l).length c2) z (.slice a (u8rows rest).length c),Zr b3 z] []:=S6
  have r6:=(z_at S6 1 rfl).all
  with_reducible repeat (first | (apply qzV; simp (disch:=omega) only [zA,bzS13.1,r6] <;> rfl) | apply qzT | apply qzF | (apply qzB; simp (disch:=omega) only [zA,bzS13.1,r6] <;> rfl))
  exact ⟨_,rfl,.inl ⟨kind,l,z,rest,ho,rfl⟩,S6.grow⟩
 ·simp only at er g2
  subst er
  have S3:=S1.call g2
  with_reducible repeat (first | (apply qzV; simp (disch:=omega) only [zA,bzS13.1] <;> rfl) | apply qzT | apply qzF | (apply qzB; simp (disch:=omega) only [zA,bzS13.1] <;> rfl))
  refine Tl.alloc' S3 ze104 rfl fun b5 h4 S4 _=>?_
  refine Tl.store' S4 0 rfl sz104 rfl rfl (of_decide_eq_true rfl) fun h5 S5 _=>?_
  have S5 : Stt prog h.n h h5 [Op b5 kind (.slice a m c) z (.slice none 0 0),Zr b3 z0] []:=S5
  with_reducible repeat (first | (apply qzV; simp (disch:=omega) only [zA,bzS13.1,bz0] <;> rfl) | apply qzT | apply qzF | (apply qzB; simp (disch:=omega) only [zA,bzS13.1,bz0] <;> rfl))
  refine Tl.store' S5 1 rfl sz53 rfl rfl (of_decide_eq_true rfl) fun h6 S6 _=>?_
  have S6 : Stt prog h.n h h6 [Op b5 kind (.slice a m c) z (.slice none 0 0),Zr b3 z0] []:=S6
  have r6:=(z_at S6 1 rfl).all
  with_reducible repeat (first | (apply qzV; simp (disch:=omega) only [zA,bzS13.1,r6] <;> rfl) | apply qzT | apply qzF | (apply qzB; simp (disch:=omega) only [zA,bzS13.1,r6] <;> rfl))
  exact ⟨_,rfl,.inr ⟨ho,rfl⟩,S6.grow⟩
end Go.Proofs.YtlbmlncdjkdoaaaGreat.Sh
/- 'SegmentNulls' comes to true. -/
set_option linter.unusedVariables false
set_option linter.unusedSimpArgs false
set_option maxRecDepth 100000
namespace Go.Proofs.YtlbmlncdjkdoaaaGreat.Sh
open Go Go.RowKit Go.Proofs.Ev Go.Lib
end Go.Proofs.YtlbmlncdjkdoaaaGreat.Sh
/- Light cells, with their texts' bytes; how many bytes a segment has; a copy of cells. -/
set_option linter.unusedVariables false
set_option linter.unusedSimpArgs false
set_option maxRecDepth 100000
namespace Go.Proofs.YtlbmlncdjkdoaaaGreat.Sh
open Go Go.RowKit Go.Proofs.Ev Go.Lib
def tot (l : List CellD) : Nat:=(l.map fun c=>c.s.size).sum
theorem tot_cons (c : CellD) (l : List CellD) : tot (c :: l) = c.s.size + tot l:=by unfold tot; rw [List.map_cons,List.sum_cons]
theorem tot_filter (p : CellD→Bool) (l : List CellD) : tot (l.filter p) ≤ tot l:=by
 induction l with
 | nil=>exact Nat.le_refl _
 | cons c l ih =>
  rw [List.filter_cons,tot_cons]
  split
  ·rw [tot_cons]; omega
  ·omega
theorem putI_256 (l : List Int) : ∀ x ∈ putI l,x < 256:=by
 have hh : ∀ {f : Nat},f < 256→∀ n,∀ x ∈ headB f n,x < 256:=fun {f} hf n x hx=>by
  unfold headB at hx
  rcases List.mem_cons.1 hx with rfl | hx
  ·exact hf
  ·exact pvarN_256 _ x hx
 have h1 : ∀ x ∈ plainB l,x < 256:=fun x hx=>by
  unfold plainB at hx
  rcases List.mem_append.1 hx with hx | hx
  ·exact hh (by omega) _ x hx
  ·obtain ⟨z,_,hz⟩:=List.mem_flatMap.1 hx
   exact le_lt _ _ _ x hz
 have h2 : ∀ x ∈ runsB l,x < 256:=fun x hx=>by
  unfold runsB at hx
  rcases List.mem_append.1 hx with hx | hx
  ·exact hh (by omega) _ x hx
  ·obtain ⟨z,_,hz⟩:=List.mem_flatMap.1 hx
   unfold runB at hz
   rcases List.mem_append.1 hz with hz | hz
   ·exact pvarN_256 _ x hz
   ·exact le_lt _ _ _ x hz
 have h3 : ∀ x ∈ packB l,x < 256:=fun x hx=>by
  unfold packB at hx
  rcases List.mem_append.1 hx with hx | hx
  ·rcases List.mem_append.1 hx with hx | hx
   ·exact hh (by omega) _ x hx
   ·exact le_lt _ _ _ x hx
  ·rcases List.mem_cons.1 hx with rfl | hx
   ·have:=Pk.width64 (l:=moreI l) (moreI_lt l)
    unfold widI
    omega
   ·exact (putN_spec _ _).2.2 x hx
 intro x hx
 unfold putI at hx
 simp only at hx
 split at hx <;> split at hx
 ·exact h3 x hx
 ·exact h2 x hx
 ·exact h3 x hx
 ·exact h1 x hx
theorem putT_256 (l : List ByteArray) : ∀ x ∈ putT l,x < 256:=fun x hx=>by
 unfold putT at hx
 split at hx
 ·rename_i hm
  split at hx
  ·exact dictG_256 l x (by unfold dictG; rw [if_pos hm]; exact hx)
  ·exact plainG_256 l x (by unfold plainG; rw [if_pos hm]; exact hx)
 ·cases hx
theorem putV_256 (l : List Bool) : ∀ x ∈ putV l,x < 256:=fun x hx=>by
 unfold putV at hx
 have:=formN_le l
 rcases List.mem_append.1 hx with hx | hx
 ·exact pvarN_256 _ x hx
 ·rcases List.mem_cons.1 hx with rfl | hx
  ·omega
  ·split at hx
   ·exact (putN_spec _ _).2.2 x hx
   ·cases hx
theorem oneB_256 (kind : Int) (c : CellD) : ∀ x ∈ oneB kind c,x < 256:=fun x hx=>by
 unfold oneB at hx
 split at hx
 ·exact le_lt _ _ _ x hx
 ·split at hx
  ·unfold oneT at hx
   rw [List.mem_singleton] at hx
   omega
  ·unfold oneW at hx
   rcases List.mem_append.1 hx with hx | hx
   ·exact pvarN_256 _ x hx
   ·exact bytesN_lt _ x hx
theorem cellsB_256 (kind : Int) (l : List CellD) : ∀ x ∈ cellsB kind l,x < 256:=fun x hx=>by
 unfold cellsB at hx
 split at hx
 ·exact putI_256 _ x hx
 ·split at hx
  ·unfold Pk.putL at hx
   split at hx
   ·exact (putN_spec _ _).2.2 x hx
   ·cases hx
  ·exact putT_256 _ x hx
theorem segB_256 {kind : Int} (hk : 1 ≤ kind ∧ kind ≤ 3) (l : List CellD) : ∀ x ∈ segB kind l,x < 256:=fun x hx=>by
 unfold segB tailB at hx
 rcases List.mem_append.1 hx with hx | hx
 ·rcases List.mem_append.1 hx with hx | hx
  ·rw [List.mem_singleton] at hx
   omega
  ·exact putV_256 _ x hx
 ·split at hx
  ·cases hx
  ·rcases List.mem_append.1 hx with hx | hx
   ·rcases List.mem_append.1 hx with hx | hx
    ·exact oneB_256 _ _ x hx
    ·exact oneB_256 _ _ x hx
   ·exact cellsB_256 _ _ x hx
theorem plainT_tot : ∀ (l : List CellD),(∀ c ∈ l,c.s.size ≤ 65536)→((valsW l).flatMap textP).length ≤ 10 * l.length + tot l
 | [],_=>by simp [valsW,tot]
 | c :: l,h=>by
  have ih:=plainT_tot l fun x hx=>h x (List.mem_cons_of_mem _ hx)
  have hc:=h c (List.mem_cons_self ..)
  unfold valsW at ih ⊢
  rw [List.map_cons,List.flatMap_cons,List.length_append,tot_cons,List.length_cons]
  have:=pvarN_le10 (n:=c.s.size) (by omega)
  unfold textP at ih ⊢
  rw [List.length_append,bytesN_len]
  omega
theorem tot_mem {c : CellD} : ∀ {l : List CellD},c ∈ l→c.s.size ≤ tot l
 | d :: l,h=>by
  rw [tot_cons]
  rcases List.mem_cons.1 h with rfl | h
  ·omega
  ·have:=tot_mem h; omega
theorem segB_bound {kind : Int} {l : List CellD} (h : segE kind l = 0) (hl : l.length ≤ 4096) (ht : tot l ≤ 100000) : (segB kind l).length ≤ 700 + 3 * tot l + 10 * l.length:=by
 obtain ⟨hk,_,hall⟩:=segE_zero.1 h
 have hg:=good_vals hall
 have hvl:=vals_le l
 have hp:=putV_len (l:=flg l) (by have : (flg l).length = l.length:=List.length_map ..; omega)
 have hone : ∀ c : CellD,c.s.size ≤ tot l→(oneB kind c).length ≤ tot l + 10:=fun c hc=>by
  unfold oneB
  split
  ·unfold oneN; rw [le_len]; omega
  ·split
   ·simp [oneT]
   ·unfold oneW
    have:=pvarN_le10 (n:=c.s.size) (by omega)
    rw [List.length_append,bytesN_len]
    omega
 unfold segB tailB
 rw [List.length_append,List.length_append,List.length_singleton]
 split
 ·simp only [List.length_nil]; omega
 ·rename_i q
  obtain ⟨m1,m2⟩:=mn_mem (l:=vals l) (by omega) vals_ne q
  have hsz : ∀ c ∈ vals l,c.s.size ≤ tot l:=fun c hc=>by
   exact tot_mem (List.mem_filter.1 hc).1
  have o1:=hone _ (hsz _ m1)
  have o2:=hone _ (hsz _ m2)
  rw [List.length_append,List.length_append]
  have hc : (cellsB kind (vals l)).length ≤ 11 + 10 * l.length + tot l:=by
   unfold cellsB
   split
   ·have e : (valsN (vals l)).length = (vals l).length:=List.length_map ..
    have:=putI_le (l:=valsN (vals l)) (by omega)
    omega
   ·split
    ·unfold Pk.putL
     split
     ·have:=(putN_spec (1 : Int).toNat (valsT (vals l))).2.1
      have e : (valsT (vals l)).length = (vals l).length:=List.length_map ..
      have e1 : (1 : Int).toNat = 1:=rfl
      rw [this,e,e1]
      omega
     ·simp
    ·unfold putT
     split
     ·have h1:=plainT_tot (vals l) fun c hc=>cellE_size (hg c hc).2
      have h2 : tot (vals l) ≤ tot l:=tot_filter _ l
      have e : (valsW (vals l)).length = (vals l).length:=List.length_map ..
      have h3:=pvarN_le10 (n:=(valsW (vals l)).length) (by omega)
      have h4 : (plainT (valsW (vals l))).length ≤ 11 + (10 * (vals l).length + tot (vals l)):=by
       unfold plainT
       rw [List.length_cons,List.length_append]
       omega
      split <;> omega
     ·simp
  omega
/-! ### A copy -/
end Go.Proofs.YtlbmlncdjkdoaaaGreat.Sh
/- The document's comparison of cells; rows of rows, which of them are light. -/
set_option linter.unusedVariables false
set_option linter.unusedSimpArgs false
set_option maxRecDepth 100000
namespace Go.Proofs.YtlbmlncdjkdoaaaGreat.Sh
open Go Go.RowKit Go.Proofs.Ev Go.Lib
open Tryz (prog)
def bzVm:=PLift.up (ai @ld3 (ai @ld2 (ai @ld9 (ai @ld39 (ai @ld34 (ai @fa39_0 (ai @fa39_1 (ai @fa39_2 (@Nat.add_zero)))))))))
theorem bytesLess_cmp : ∀ a b : List UInt8,Op.bytesLess a b = decide (compareBytes a b < 0)
 | [],[]=>rfl
 | [],_ :: _=>rfl
 | _ :: _,[]=>rfl
 | a :: x,b :: y=>by
  unfold Op.bytesLess compareBytes
  by_cases h1 : a < b
  ·simp [h1]
  ·by_cases h2 : b < a
   ·have : (a == b) = false:=by
     rw [beq_eq_false_iff_ne]
     rintro rfl
     exact absurd h2 h1
    simp [h1,h2,this]
   ·have : (a == b) = true:=by
     rw [beq_iff_eq]
     rw [UInt8.lt_iff_toNat_lt] at h1 h2
     exact UInt8.toNat_inj.1 (by omega)
    simp [h1,h2,this,bytesLess_cmp x y]
theorem str_lss {x y : Operand} {a b : ByteArray} : pBin prog .lss 9 x y (.string a) (.string b) = some (.bool (decide (compareBytes a.data.toList b.data.toList < 0))):=by
 have h1 : pBin prog .lss 9 x y (.string a) (.string b) = some (.bool (Op.bytesLess a.toList b.toList)):=rfl
 rw [h1,ByteArray.toList_eq,ByteArray.toList_eq,bytesLess_cmp]
/-- Rows of rows. -/
def Rows (h : AH) (v : Value) (l : List (List CellD)) : Prop:=∃ vs : List Value,SlZ prog h v 1 (vs.map fun v=>[v]) ∧ All2 (Cells h) vs l
theorem Rows.grow {h h' : AH} {v : Value} {l : List (List CellD)} (S : Rows h v l) (g : Grow h h') : Rows h' v l:=by
 obtain ⟨vs,X,A⟩:=S
 exact ⟨vs,X.grow g,A.mono fun _ _ h=>h.grow g⟩
theorem Rows.len {h h' : AH} {v : Value} {l : List (List CellD)} (S : Rows h v l) : pLen prog #[23] v h' = some (.int .i64 l.length):=by
 obtain ⟨vs,X,A⟩:=S
 have:=X.len u23 (h':=h')
 rwa [List.length_map,A.len] at this
theorem Rows.at_ {h : AH} {v : Value} {l : List (List CellD)} (S : Rows h v l) {i : Nat} {x : List CellD} (hi : l[i]? = some x) :
  ∃ b o w,pIndexAddr prog 23 v (.int .i64 i) = some (.pointer (some ⟨b,o,none⟩)) ∧ h.cell b o = some w ∧ Cells h w x:=by
 obtain ⟨vs,X,A⟩:=S
 obtain ⟨w,hw,C⟩:=A.get hi
 obtain ⟨b,o,h1,h2⟩:=X.at_ (k:=.i64) (i:=i) (r:=[w]) (by simp [hw]) u23 sz34
 exact ⟨b,o,w,h1,by simpa using Ev.cell_of_row (j:=0) h2 (by omega),C⟩
def lightRs (l : List (List CellD)) (most : Int) : Bool:=l.all lightR && decide ((l.length : Int) ≤ most)
theorem f18_loop {β : Type} {k : Nat} {Q : β→Prop} {h : AH} {v m : Value} {l : List (List CellD)} (S : Rows h v l) (hl : l.length ≤ 9223372036854775807) (hls : ∀ r ∈ l,r.length ≤ 9223372036854775807 ∧ r.length < k) {ke0 : Value→Value→Value→Value→AH→Option β} {kr : Value→AH→Option β} (n : Nat) :
  ∀ {i j : Nat},i + n = l.length→n < j→((l.drop i).all lightR = true→∀ y1 y2,Tl (ke0 v m y1 y2 h) Q)→((l.drop i).all lightR = false→Tl (kr (.bool false) h) Q) →
   Tl (F18_lrlr (eInv env (k + 1)) (k + 1) j v m (.int .i64 i) h ke0 kr) Q:=by
 have hv : ∀ h',pLen prog #[23] v h' = some (.int .i64 l.length):=fun h'=>S.len
 induction n with
 | zero =>
  intro i j hi hj hk hr
  obtain ⟨j,rfl⟩ : ∃ q,j = q + 1:=⟨j - 1,by omega⟩
  simp only [F18_lrlr]
  with_reducible repeat (first | (apply qzV; simp (disch:=omega) only [zA,bzVm.1,hv] <;> rfl) | apply qzT | apply qzF | (apply qzB; simp (disch:=omega) only [zA,bzVm.1,hv] <;> rfl))
  exact hk (by rw [List.drop_eq_nil_of_le (by omega)]; rfl) _ _
 | succ n ih =>
  intro i j hi hj hk hr
  obtain ⟨j,rfl⟩ : ∃ q,j = q + 1:=⟨j - 1,by omega⟩
  obtain ⟨x,ex⟩ : ∃ x,l[i]? = some x:=⟨_,List.getElem?_eq_getElem (by omega)⟩
  obtain ⟨b,o,w,hp,hc,C⟩:=S.at_ ex
  obtain ⟨m1,m2⟩:=hls x (List.mem_of_getElem? ex)
  have hlr:=f47c (k:=k) C m1 m2
  have e : (i : Int) + 1 = ((i + 1 : Nat) : Int):=by omega
  rw [drop_at ex,List.all_cons] at hk hr
  simp only [F18_lrlr]
  cases q : lightR x with
  | true =>
   rw [q] at hlr
   rw [q,Bool.true_and] at hk hr
   with_reducible repeat (first | (apply qzV; simp (disch:=omega) only [zA,bzVm.1,hv,hp,hc,hlr] <;> rfl) | apply qzT | apply qzF | (apply qzB; simp (disch:=omega) only [zA,bzVm.1,hv,hp,hc,hlr] <;> rfl))
   rw [e]
   exact ih (by omega) (by omega) hk hr
  | false =>
   rw [q] at hlr
   rw [q,Bool.false_and] at hr
   with_reducible repeat (first | (apply qzV; simp (disch:=omega) only [zA,bzVm.1,hv,hp,hc,hlr] <;> rfl) | apply qzT | apply qzF | (apply qzB; simp (disch:=omega) only [zA,bzVm.1,hv,hp,hc,hlr] <;> rfl))
   exact hr rfl
theorem f18c {k : Nat} {h : AH} {v : Value} {l : List (List CellD)} (most : Int) (S : Rows h v l) (hl : l.length ≤ 9223372036854775807) (hls : ∀ r ∈ l,r.length ≤ 9223372036854775807 ∧ r.length < k) (hk : l.length < k + 1) : eInv env (k + 2) (.func 18) #[] #[v,.int .i64 most] h = some (.bool (lightRs l most),h):=by
 rw [F18_call]
 have T : Tl (F18 (eInv env (k + 1)) (k + 1) v (.int .i64 most) h) fun r=>r = (.bool (lightRs l most),h):=by
  unfold F18
  have hv : ∀ h',pLen prog #[23] v h' = some (.int .i64 l.length):=fun h'=>S.len
  refine f18_loop S hl hls l.length (i:=0) (by omega) hk (fun q y1 y2=>?_) fun q=>⟨_,rfl,?_⟩
  ·rw [List.drop_zero] at q
   with_reducible repeat (first | (apply qzV; simp (disch:=omega) only [zA,bzVm.1,hv] <;> rfl) | apply qzT | apply qzF | (apply qzB; simp (disch:=omega) only [zA,bzVm.1,hv] <;> rfl))
   refine ⟨_,rfl,?_⟩
   unfold lightRs
   rw [q,Bool.true_and]
  ·rw [List.drop_zero] at q
   unfold lightRs
   rw [q,Bool.false_and]
 obtain ⟨r,h1,h2⟩:=T
 rw [h1,h2]
end Go.Proofs.YtlbmlncdjkdoaaaGreat.Sh
/- The document's zones: 'Compare', 'Join'. -/
set_option linter.unusedVariables false
set_option linter.unusedSimpArgs false
set_option maxRecDepth 100000
namespace Go.Proofs.YtlbmlncdjkdoaaaGreat.Sh
open Go Go.RowKit Go.Proofs.Ev Go.Lib
open Tryz (prog)
def bzZf:=PLift.up (ai @ld3 (ai @ld2 (ai @ld9 (ai @ld39 (ai @ld53 (ai @fa39_0 (ai @fa39_1 (ai @fa39_2 (ai @fa53_0 (ai @fa53_1 (ai @fa53_2 (ai @fa53_3 (ai @aggC (ai @aggZ (@Nat.add_zero)))))))))))))))
theorem f54c {k : Nat} (a b : CellD) (h : AH) : Tl (eInv env (k + 1) (.func 54) #[] #[a.v,b.v] h) fun r=>r.1 = .int .i64 (a.cmp b) ∧ Grow h r.2:=by
 rw [F54_call]
 unfold F54
 refine Tl.box' (Stt.init h) rfl isC fun b1 h1 S1 _=>?_
 refine Tl.box' S1 rfl isC fun b2 h2 S2 _=>?_
 have S2 : Stt prog h.n h h2 [Cr b2 b,Cr b1 a] []:=S2
 obtain ⟨_,a0,a1,a2⟩:=c_at S2 1 rfl
 obtain ⟨_,c0,c1,c2⟩:=c_at S2 0 rfl
 unfold CellD.cmp cmpI orI
 by_cases k1 : a.k < b.k
 ·rw [if_pos k1,if_neg (by omega)]
  with_reducible repeat (first | (apply qzV; simp (disch:=omega) only [zA,bzZf.1,a0,c0] <;> rfl) | apply qzT | apply qzF | (apply qzB; simp (disch:=omega) only [zA,bzZf.1,a0,c0] <;> rfl))
  exact ⟨_,rfl,rfl,S2.grow⟩
 ·by_cases k2 : b.k < a.k
  ·rw [if_neg k1,if_pos k2,if_neg (by omega)]
   with_reducible repeat (first | (apply qzV; simp (disch:=omega) only [zA,bzZf.1,a0,c0] <;> rfl) | apply qzT | apply qzF | (apply qzB; simp (disch:=omega) only [zA,bzZf.1,a0,c0] <;> rfl))
   exact ⟨_,rfl,rfl,S2.grow⟩
  ·rw [if_neg k1,if_neg k2,if_pos rfl]
   by_cases i1 : a.i < b.i
   ·rw [if_pos i1,if_neg (by omega)]
    with_reducible repeat (first | (apply qzV; simp (disch:=omega) only [zA,bzZf.1,a0,c0,a1,c1] <;> rfl) | apply qzT | apply qzF | (apply qzB; simp (disch:=omega) only [zA,bzZf.1,a0,c0,a1,c1] <;> rfl))
    exact ⟨_,rfl,rfl,S2.grow⟩
   ·by_cases i2 : b.i < a.i
    ·rw [if_neg i1,if_pos i2,if_neg (by omega)]
     with_reducible repeat (first | (apply qzV; simp (disch:=omega) only [zA,bzZf.1,a0,c0,a1,c1] <;> rfl) | apply qzT | apply qzF | (apply qzB; simp (disch:=omega) only [zA,bzZf.1,a0,c0,a1,c1] <;> rfl))
     exact ⟨_,rfl,rfl,S2.grow⟩
    ·rw [if_neg i1,if_neg i2,if_pos rfl]
     have hz:=cb_zero a.s.data.toList b.s.data.toList
     have hne : ∀ x y,pBin prog .neq 9 x y (.string a.s) (.string b.s) = some (.bool (!decide (compareBytes a.s.data.toList b.s.data.toList = 0))):=fun x y=>by
      rw [bin_neq_string]
      congr 3
      refine decide_eq_decide.2 ⟨fun q=>hz.2 (by rw [q]),fun q=>?_⟩
      have:=hz.1 q
      exact ByteArray.ext (Array.ext' this)
     unfold CellD.bytes
     rcases cb_range a.s.data.toList b.s.data.toList with q | q | q
     ·have hn : ∀ x y,pBin prog .neq 9 x y (.string a.s) (.string b.s) = some (.bool true):=fun x y=>by rw [hne,q]; rfl
      have hs : ∀ x y,pBin prog .lss 9 x y (.string a.s) (.string b.s) = some (.bool true):=fun x y=>by rw [str_lss,q]; rfl
      rw [q]
      with_reducible repeat (first | (apply qzV; simp (disch:=omega) only [zA,bzZf.1,a0,c0,a1,c1,a2,c2,hn,hs] <;> rfl) | apply qzT | apply qzF | (apply qzB; simp (disch:=omega) only [zA,bzZf.1,a0,c0,a1,c1,a2,c2,hn,hs] <;> rfl))
      exact ⟨_,rfl,rfl,S2.grow⟩
     ·have hn : ∀ x y,pBin prog .neq 9 x y (.string a.s) (.string b.s) = some (.bool false):=fun x y=>by rw [hne,q]; rfl
      have hs : ∀ x y,pBin prog .lss 9 x y (.string a.s) (.string b.s) = some (.bool false):=fun x y=>by rw [str_lss,q]; rfl
      rw [q]
      with_reducible repeat (first | (apply qzV; simp (disch:=omega) only [zA,bzZf.1,a0,c0,a1,c1,a2,c2,hn,hs] <;> rfl) | apply qzT | apply qzF | (apply qzB; simp (disch:=omega) only [zA,bzZf.1,a0,c0,a1,c1,a2,c2,hn,hs] <;> rfl))
      exact ⟨_,rfl,rfl,S2.grow⟩
     ·have hn : ∀ x y,pBin prog .neq 9 x y (.string a.s) (.string b.s) = some (.bool true):=fun x y=>by rw [hne,q]; rfl
      have hs : ∀ x y,pBin prog .lss 9 x y (.string a.s) (.string b.s) = some (.bool false):=fun x y=>by rw [str_lss,q]; rfl
      rw [q]
      with_reducible repeat (first | (apply qzV; simp (disch:=omega) only [zA,bzZf.1,a0,c0,a1,c1,a2,c2,hn,hs] <;> rfl) | apply qzT | apply qzF | (apply qzB; simp (disch:=omega) only [zA,bzZf.1,a0,c0,a1,c1,a2,c2,hn,hs] <;> rfl))
      exact ⟨_,rfl,rfl,S2.grow⟩
/-- 'Join' of a zone with itself. -/
theorem f24c {k : Nat} (a b : ZoneD) (h : AH) : Tl (eInv env (k + 12) (.func 24) #[] #[zv a,zv b] h) fun r=>r.1 = zv (joinZ a b) ∧ Grow h r.2:=by
 rw [F24_call]
 unfold F24
 refine Tl.box' (Stt.init h) rfl isZ fun b2 h1 S1 _=>?_
 refine Tl.box' S1 rfl isZ fun b3 h2 S2 _=>?_
 refine Tl.alloc' S2 ze53 rfl fun b4 h3 S3 _=>?_
 have S3 : Stt prog h.n h h3 [Zr b4 z0,Zr b3 b,Zr b2 a] []:=S3
 obtain ⟨_,a2,a3,a4,a5,_,_⟩:=z_at S3 2 rfl
 obtain ⟨_,p2,p3,p4,p5,_,_⟩:=z_at S3 1 rfl
 with_reducible repeat (first | (apply qzV; simp (disch:=omega) only [zA,bzZf.1,a2,a3,a4,a5,p2,p3,bdZc] <;> rfl) | apply qzT | apply qzF | (apply qzB; simp (disch:=omega) only [zA,bzZf.1,a2,a3,a4,a5,p2,p3,bdZc] <;> rfl))
 refine Tl.alloc' S3 ze53 rfl fun b5 h4 S4 _=>?_
 refine Tl.store' S4 0 rfl sz53 rfl rfl (of_decide_eq_true rfl) fun h5 S5 _=>?_
 have S5 : Stt prog h.n h h5 [Zr b5 ⟨IntKind.i64.wrap (a.cnt + b.cnt),IntKind.i64.wrap (a.nul + b.nul),a.mn,a.mx⟩,Zr b4 z0,Zr b3 b,Zr b2 a] []:=S5
 obtain ⟨_,d2,d3,d4,d5,_,_⟩:=z_at S5 3 rfl
 obtain ⟨_,p2,p3,p4,p5,_,_⟩:=z_at S5 2 rfl
 obtain ⟨_,q2,q3,q4,q5,_,_⟩:=z_at S5 0 rfl
 have fin : ∀ (h6 : AH) (z : ZoneD),z = joinZ a b→Stt prog h.n h h6 [Zr b5 z,Zr b4 z0,Zr b3 b,Zr b2 a] []→Tl (Ev.bnd (pLoad prog 53 (.pointer (some ⟨b5,0,none⟩)) h6) fun x55=>Ev.bnd (kSt (pStore prog 53 (.pointer (some ⟨b4,0,none⟩)) x55 h6)) fun u=>Ev.bnd (pLoad prog 53 (.pointer (some ⟨b4,0,none⟩)) u.2) fun q0=>some (q0,u.2)) fun r=>r.1 = zv (joinZ a b) ∧ Grow h r.2:=by
  intro h6 z ez S6
  have s1:=(z_at S6 0 rfl).all
  with_reducible repeat (first | (apply qzV; simp (disch:=omega) only [zA,bzZf.1,s1] <;> rfl) | apply qzT | apply qzF | (apply qzB; simp (disch:=omega) only [zA,bzZf.1,s1] <;> rfl))
  refine Tl.store' S6 1 rfl sz53 rfl rfl (of_decide_eq_true rfl) fun h7 S7 _=>?_
  have S7 : Stt prog h.n h h7 [Zr b5 z,Zr b4 z,Zr b3 b,Zr b2 a] []:=S7
  have t1:=(z_at S7 1 rfl).all
  with_reducible repeat (first | (apply qzV; simp (disch:=omega) only [zA,bzZf.1,t1] <;> rfl) | apply qzT | apply qzF | (apply qzB; simp (disch:=omega) only [zA,bzZf.1,t1] <;> rfl))
  exact ⟨_,rfl,by rw [ez],S7.grow⟩
 by_cases n1 : a.cnt = a.nul
 ·with_reducible repeat (first | (apply qzV; simp (disch:=omega) only [zA,bzZf.1,d2,d3] <;> rfl) | apply qzT | apply qzF | (apply qzB; simp (disch:=omega) only [zA,bzZf.1,d2,d3] <;> rfl))
  unfold F24_rlrr
  with_reducible repeat (first | (apply qzV; simp (disch:=omega) only [zA,bzZf.1,p4,p5] <;> rfl) | apply qzT | apply qzF | (apply qzB; simp (disch:=omega) only [zA,bzZf.1,p4,p5] <;> rfl))
  refine Tl.store' S5 0 rfl sz39 rfl rfl (of_decide_eq_true rfl) fun h6 S6 _=>?_
  have S6 : Stt prog h.n h h6 [Zr b5 ⟨IntKind.i64.wrap (a.cnt + b.cnt),IntKind.i64.wrap (a.nul + b.nul),b.mn,a.mx⟩,Zr b4 z0,Zr b3 b,Zr b2 a] []:=S6
  obtain ⟨_,s2,s3,s4,s5,_,_⟩:=z_at S6 2 rfl
  with_reducible repeat (first | (apply qzV; simp (disch:=omega) only [zA,bzZf.1,s5] <;> rfl) | apply qzT | apply qzF | (apply qzB; simp (disch:=omega) only [zA,bzZf.1,s5] <;> rfl))
  refine Tl.store' S6 0 rfl sz39 rfl rfl (of_decide_eq_true rfl) fun h7 S7 _=>?_
  with_reducible refine Tl.chk ?_ ?_
  ·simp only [ld39,p5,s5,Option.map_some,aggC,sameO_some,sameC,Bool.and_self,Bool.not_true,Bool.or_true,Bool.true_and,Bool.false_or]
  exact fin h7 ⟨IntKind.i64.wrap (a.cnt + b.cnt),IntKind.i64.wrap (a.nul + b.nul),b.mn,b.mx⟩ (by unfold joinZ; simp only [if_pos n1]) S7
 ·with_reducible repeat (first | (apply qzV; simp (disch:=omega) only [zA,bzZf.1,d2,d3] <;> rfl) | apply qzT | apply qzF | (apply qzB; simp (disch:=omega) only [zA,bzZf.1,d2,d3] <;> rfl))
  unfold F24_rlrr
  by_cases n2 : b.cnt = b.nul
  ·with_reducible repeat (first | (apply qzV; simp (disch:=omega) only [zA,bzZf.1,p2,p3] <;> rfl) | apply qzT | apply qzF | (apply qzB; simp (disch:=omega) only [zA,bzZf.1,p2,p3] <;> rfl))
   exact fin h5 _ (by unfold joinZ; simp only [if_neg n1,if_pos n2]) S5
  ·with_reducible repeat (first | (apply qzV; simp (disch:=omega) only [zA,bzZf.1,p2,p3,p4,q4] <;> rfl) | apply qzT | apply qzF | (apply qzB; simp (disch:=omega) only [zA,bzZf.1,p2,p3,p4,q4] <;> rfl))
   with_reducible refine Tl.call' S5 (f54c (k:=k + 10) b.mn a.mn h5) fun h6 S6 _=>?_
   unfold F24_rllrrrlrr
   have key : ∀ (h7 : AH) (m : CellD),m = mn2 a.mn b.mn→Stt prog h.n h h7 [Zr b5 ⟨IntKind.i64.wrap (a.cnt + b.cnt),IntKind.i64.wrap (a.nul + b.nul),m,a.mx⟩,Zr b4 z0,Zr b3 b,Zr b2 a] [] →
     Tl (Ev.bnd (pFieldAddr prog 53 (.pointer (some ⟨b3,0,none⟩)) 3) fun x46=>Ev.bnd (pLoad prog 39 x46 h7) fun x47=>Ev.bnd (pFieldAddr prog 53 (.pointer (some ⟨b5,0,none⟩)) 3) fun x48=>Ev.bnd (pLoad prog 39 x48 h7) fun x49 =>
      Ev.bnd (eInv env (k + 11) (.func 54) #[] #[x47,x49] h7) fun x50=>Ev.bnd (pBin prog .gtr 3 (.tmp 50) (.const (.int .i64 0)) x50.1 (.int .i64 0)) fun x51 =>
      brV x51 (Ev.bnd (pFieldAddr prog 53 (.pointer (some ⟨b3,0,none⟩)) 3) fun x52=>Ev.bnd (pLoad prog 39 x52 x50.2) fun x53=>Ev.bnd (pFieldAddr prog 53 (.pointer (some ⟨b5,0,none⟩)) 3) fun x54=>Ev.bnd (kSt (pStore prog 39 x54 x53 x50.2)) fun u =>
       Ev.bnd (pLoad prog 53 (.pointer (some ⟨b5,0,none⟩)) u.2) fun x55=>Ev.bnd (kSt (pStore prog 53 (.pointer (some ⟨b4,0,none⟩)) x55 u.2)) fun u=>Ev.bnd (pLoad prog 53 (.pointer (some ⟨b4,0,none⟩)) u.2) fun q0=>some (q0,u.2))
      (Ev.bnd (pLoad prog 53 (.pointer (some ⟨b5,0,none⟩)) x50.2) fun x55=>Ev.bnd (kSt (pStore prog 53 (.pointer (some ⟨b4,0,none⟩)) x55 x50.2)) fun u=>Ev.bnd (pLoad prog 53 (.pointer (some ⟨b4,0,none⟩)) u.2) fun q0=>some (q0,u.2)))
      fun r=>r.1 = zv (joinZ a b) ∧ Grow h r.2:=by
    intro h7 m hm S7
    obtain ⟨_,p2,p3,p4,p5,_,_⟩:=z_at S7 2 rfl
    obtain ⟨_,q2,q3,q4,q5,_,_⟩:=z_at S7 0 rfl
    with_reducible repeat (first | (apply qzV; simp (disch:=omega) only [zA,bzZf.1,p5,q5] <;> rfl) | apply qzT | apply qzF | (apply qzB; simp (disch:=omega) only [zA,bzZf.1,p5,q5] <;> rfl))
    with_reducible refine Tl.call' S7 (f54c (k:=k + 10) b.mx a.mx h7) fun h8 S8 _=>?_
    obtain ⟨_,p2,p3,p4,p5,_,_⟩:=z_at S8 2 rfl
    by_cases e3 : b.mx.cmp a.mx > 0
    ·with_reducible repeat (first | (apply qzV; simp (disch:=omega) only [zA,bzZf.1,p5] <;> rfl) | apply qzT | apply qzF | (apply qzB; simp (disch:=omega) only [zA,bzZf.1,p5] <;> rfl))
     refine Tl.store' S8 0 rfl sz39 rfl rfl (of_decide_eq_true rfl) fun h9 S9 _=>?_
     exact fin h9 ⟨IntKind.i64.wrap (a.cnt + b.cnt),IntKind.i64.wrap (a.nul + b.nul),m,b.mx⟩ (by unfold joinZ mx2; simp only [if_neg n1,if_neg n2,if_pos e3,hm]) S9
    ·with_reducible repeat (first | (apply qzV; simp (disch:=omega) only [zA,bzZf.1] <;> rfl) | apply qzT | apply qzF | (apply qzB; simp (disch:=omega) only [zA,bzZf.1] <;> rfl))
     exact fin h8 _ (by unfold joinZ mx2; simp only [if_neg n1,if_neg n2,if_neg e3,hm]) S8
   by_cases e3 : b.mn.cmp a.mn < 0
   ·obtain ⟨_,p2,p3,p4,p5,_,_⟩:=z_at S6 2 rfl
    with_reducible repeat (first | (apply qzV; simp (disch:=omega) only [zA,bzZf.1,p4] <;> rfl) | apply qzT | apply qzF | (apply qzB; simp (disch:=omega) only [zA,bzZf.1,p4] <;> rfl))
    refine Tl.store' S6 0 rfl sz39 rfl rfl (of_decide_eq_true rfl) fun h7 S7 _=>?_
    exact key h7 b.mn (by unfold mn2; rw [if_pos e3]) S7
   ·with_reducible repeat (first | (apply qzV; simp (disch:=omega) only [zA,bzZf.1] <;> rfl) | apply qzT | apply qzF | (apply qzB; simp (disch:=omega) only [zA,bzZf.1] <;> rfl))
    exact key h6 a.mn (by unfold mn2; rw [if_neg e3]) S6
end Go.Proofs.YtlbmlncdjkdoaaaGreat.Sh
/- 'SegmentOrder' comes to true. -/
set_option linter.unusedVariables false
set_option linter.unusedSimpArgs false
set_option maxRecDepth 100000
namespace Go.Proofs.YtlbmlncdjkdoaaaGreat.Sh
open Go Go.RowKit Go.Proofs.Ev Go.Lib
open Tryz (prog)
/-! ### Zones held against each other -/
theorem stZ : prog.underlying 53 = some (.struct (prog.fieldsOf 53)):=by kernel_rfl
theorem egZ : prog.eqGuardType prog.depth 53 = false:=by kernel_rfl
theorem shZ : prog.stoodInHeld 53 = false:=by kernel_rfl
theorem fsZ : (prog.fieldsOf 53).toList = [{ name := "Count", type := 3, offset := 0, embedded := false, tag := "", pkgPath := "", byteOffset := 0 }, { name := "Nulls", type := 3, offset := 1, embedded := false, tag := "", pkgPath := "", byteOffset := 8 }, { name := "Min", type := 39, offset := 2, embedded := false, tag := "", pkgPath := "", byteOffset := 16 }, { name := "Max", type := 39, offset := 5, embedded := false, tag := "", pkgPath := "", byteOffset := 48 }] := by kernel_rfl
theorem ptZ_0 (z : ZoneD) : prun prog (part 3 (zl z).toArray 0) = some (.int .i64 z.cnt):=by kernel_rfl
theorem ptZ_1 (z : ZoneD) : prun prog (part 3 (zl z).toArray 1) = some (.int .i64 z.nul):=by kernel_rfl
theorem ptZ_2 (z : ZoneD) : prun prog (part 39 (zl z).toArray 2) = some z.mn.v:=by kernel_rfl
theorem ptZ_3 (z : ZoneD) : prun prog (part 39 (zl z).toArray 5) = some z.mx.v:=by kernel_rfl
theorem zone_ext {a b : ZoneD} : a = b ↔ a.cnt = b.cnt ∧ a.nul = b.nul ∧ a.mn = b.mn ∧ a.mx = b.mx:=by
 constructor
 ·rintro rfl; exact ⟨rfl,rfl,rfl,rfl⟩
 ·rintro ⟨h1,h2,h3,h4⟩
  cases a; cases b
  simp only at h1 h2 h3 h4
  subst h1; subst h2; subst h3; subst h4
  rfl
theorem eqZ (d : Nat) (a b : ZoneD) : prun prog (Op.equalIn (d + 3) 53 (zv a) (zv b)) = some (decide (a = b)):=by
 unfold zv
 rw [prun_equal_struct stZ shZ,fsZ]
 simp only [prunFields,ne_eq,String.reduceEq,not_false_eq_true,if_true,ptZ_0,ptZ_1,ptZ_2,ptZ_3,Option.bind_some,prun_equal_int u3,eqC]
 rw [show (decide (a = b)) = decide (a.cnt = b.cnt ∧ a.nul = b.nul ∧ a.mn = b.mn ∧ a.mx = b.mx) from decide_eq_decide.2 zone_ext]
 by_cases h1 : a.cnt = b.cnt
 ·by_cases h2 : a.nul = b.nul
  ·by_cases h3 : a.mn = b.mn
   ·by_cases h4 : a.mx = b.mx
    ·simp [h1,h2,h3,h4]
    ·simp [h1,h2,h3,h4]
   ·simp [h1,h2,h3]
  ·have : (a.nul == b.nul) = false:=by simpa using h2
   simp [h1,h2,this]
 ·have : (a.cnt == b.cnt) = false:=by simpa using h1
  simp [h1,this]
theorem neqZ (a b : ZoneD) {x y : Operand} : pBin prog .neq 53 x y (zv a) (zv b) = some (.bool (!decide (a = b))):=bin_neq_agg rfl rfl egZ (eqZ 9997 a b)
/-! ### The plain law -/
end Go.Proofs.YtlbmlncdjkdoaaaGreat.Sh
/- The document's zones: 'Cell', 'Check' of zones that may be, 'Of'. -/
set_option linter.unusedVariables false
set_option linter.unusedSimpArgs false
set_option maxRecDepth 100000
namespace Go.Proofs.YtlbmlncdjkdoaaaGreat.Sh
open Go Go.RowKit Go.Proofs.Ev Go.Lib
theorem and1_01' (i : Int) : and1 i = 0 ∨ and1 i = 1:=by
 unfold and1
 have h : (BitVec.ofInt 64 i &&& BitVec.ofInt 64 1).toNat ≤ 1:=by
  rw [BitVec.toNat_and]
  have : (BitVec.ofInt 64 1).toNat = 1:=by decide
  rw [this,Nat.and_one_is_mod]
  omega
 generalize (BitVec.ofInt 64 i &&& BitVec.ofInt 64 1).toNat = n at h
 have : n = 0 ∨ n = 1:=by omega
 rcases this with rfl | rfl
 ·exact .inl (by decide)
 ·exact .inr (by decide)
def ok9 (c : CellD) : Prop:=if c.k = 0 then c.i = 0 ∧ c.s.size = 0 else if c.k = 1 then c.s.size = 0 else if c.k = 2 then (c.i = 0 ∨ c.i = 1) ∧ c.s.size = 0 else if c.k = 3 then c.i = 0 else False
theorem cell_iff {a b : CellD} : a = b ↔ a.k = b.k ∧ a.i = b.i ∧ a.s = b.s:=by
 constructor
 ·rintro rfl; exact ⟨rfl,rfl,rfl⟩
 ·rintro ⟨h1,h2,h3⟩; exact CellD.ext' h1 h2 (by unfold CellD.bytes; rw [h3])
theorem cellE_ok {c : CellD} (h : ¬ c.s.size > 65536) : (ok9 c→cellE c = 0) ∧ (¬ ok9 c→cellE c = 2):=by
 have hs : (.empty : ByteArray) = c.s ↔ c.s.size = 0:=by rw [eq_comm]; exact size0
 have key : (if c.k = 0 ∨ c.k = 1 ∨ c.k = 2 ∨ c.k = 3 then (if bare c = c then (0 : Int) else 2) else 2) = cellE c:=by unfold cellE; rw [if_neg h]
 rw [← key]
 unfold ok9 bare
 by_cases p0 : c.k = 0
 ·have e : c0 = c ↔ c.i = 0 ∧ c.s.size = 0:=by
   rw [cell_iff]
   simp only [c0]
   rw [hs]
   constructor
   ·rintro ⟨_,h2,h3⟩; exact ⟨h2.symm,h3⟩
   ·rintro ⟨h2,h3⟩; exact ⟨p0.symm,h2.symm,h3⟩
  simp only [if_pos (show c.k = 0 ∨ c.k = 1 ∨ c.k = 2 ∨ c.k = 3 from .inl p0),if_pos p0]
  exact ⟨fun q=>if_pos (e.2 q),fun q=>if_neg fun z=>q (e.1 z)⟩
 by_cases p1 : c.k = 1
 ·have e : (⟨c.k,c.i,.empty⟩ : CellD) = c ↔ c.s.size = 0:=by
   rw [cell_iff,← hs]
   simp
  simp only [if_pos (show c.k = 0 ∨ c.k = 1 ∨ c.k = 2 ∨ c.k = 3 from .inr (.inl p1)),if_neg p0,if_pos p1]
  exact ⟨fun q=>if_pos (e.2 q),fun q=>if_neg fun z=>q (e.1 z)⟩
 by_cases p2 : c.k = 2
 ·have e : (⟨c.k,and1 c.i,.empty⟩ : CellD) = c ↔ (c.i = 0 ∨ c.i = 1) ∧ c.s.size = 0:=by
   rw [cell_iff,← hs]
   simp only [true_and]
   refine and_congr_left fun _=>⟨fun q=>?_,fun q=>?_⟩
   ·have:=and1_01' c.i
    rw [q] at this
    exact this
   ·rcases q with q | q <;> rw [q] <;> decide
  simp only [if_pos (show c.k = 0 ∨ c.k = 1 ∨ c.k = 2 ∨ c.k = 3 from .inr (.inr (.inl p2))),if_neg p0,if_neg p1,if_pos p2]
  exact ⟨fun q=>if_pos (e.2 q),fun q=>if_neg fun z=>q (e.1 z)⟩
 by_cases p3 : c.k = 3
 ·have e : (⟨c.k,0,c.s⟩ : CellD) = c ↔ c.i = 0:=by
   rw [cell_iff]
   simp only [true_and,and_true]
   exact eq_comm
  simp only [if_pos (show c.k = 0 ∨ c.k = 1 ∨ c.k = 2 ∨ c.k = 3 from .inr (.inr (.inr p3))),if_neg p0,if_neg p1,if_neg p2,if_pos p3]
  exact ⟨fun q=>if_pos (e.2 q),fun q=>if_neg fun z=>q (e.1 z)⟩
 ·simp only [if_neg (show ¬ (c.k = 0 ∨ c.k = 1 ∨ c.k = 2 ∨ c.k = 3) from fun q=>q.elim p0 fun q=>q.elim p1 fun q=>q.elim p2 p3),if_neg p0,if_neg p1,if_neg p2,if_neg p3]
  exact ⟨fun q=>q.elim,fun _=>trivial⟩
end Go.Proofs.YtlbmlncdjkdoaaaGreat.Sh
/- Which names may be: by bytes, by runes. -/
set_option linter.unusedVariables false
set_option linter.unusedSimpArgs false
set_option maxRecDepth 100000
namespace Go.Proofs.YtlbmlncdjkdoaaaGreat.Sh
open Go Go.RowKit Go.Proofs.Ev
open Tryz (prog)
theorem ex1_0 {b : Bool} : pExtract (.tuple #[.bool b]) 0 = some (.bool b):=rfl
def bzVg:=PLift.up (ai @ld3 (ai @ld9 (ai @ex1_0 (ai @ex3_0 (ai @ex3_1 (@ex3_2))))))
/-- A letter, or a digit that does not stand first. -/
def okB (b i : Nat) : Bool:=decide ((97 ≤ b ∧ b ≤ 122) ∨ (65 ≤ b ∧ b ≤ 90) ∨ b = 95 ∨ (0 < i ∧ 48 ≤ b ∧ b ≤ 57))
def nameF (s : ByteArray) : Nat→Nat→Bool
 | 0,_=>true
 | n + 1,i=>okB (s.get! i).toNat i && nameF s n (i + 1)
def nameOk (s : ByteArray) : Bool:=decide (1 ≤ s.size) && decide (s.size ≤ 32) && nameF s s.size 0
theorem classes (b : Nat) : b < 48 ∨ (48 ≤ b ∧ b ≤ 57) ∨ (58 ≤ b ∧ b ≤ 64) ∨ (65 ≤ b ∧ b ≤ 90) ∨ (91 ≤ b ∧ b ≤ 94) ∨ b = 95 ∨ b = 96 ∨ (97 ≤ b ∧ b ≤ 122) ∨ 123 ≤ b:=by omega
theorem dec_low {s : ByteArray} {i : Nat} (h : (s.get! i).toNat < 128) : Utf8.decode s i = ((s.get! i).toNat,1):=by
 rw [Lib.decode_at]
 unfold Lib.decodeN
 rw [if_pos h]
theorem dec_high {s : ByteArray} {i : Nat} (h : 128 ≤ (s.get! i).toNat) : 128 ≤ (Utf8.decode s i).1:=by
 rw [Lib.decode_at]
 unfold Lib.decodeN
 rw [if_neg (by omega)]
 repeat' split
 all_goals (simp only; omega)
theorem Tl.nxt {β : Type} {Q : β→Prop} {n0 : Nat} {h0 h : AH} {L : List (Nat × AO)} {O : List OS} {b pos : Nat} {s : ByteArray} {K : Value × AH→Option β} (S : Stt prog n0 h0 h L O) (i : Nat) (hi : L[i]? = some (b,.iter s pos)) (hp : pos < s.size)
  (hk : ∀ h',Stt prog n0 h0 h' (L.set i (b,.iter s (pos + (Utf8.decode s pos).2))) O→Tl (K (.tuple #[.bool true,.int .i64 pos,.int .i32 (Utf8.decode s pos).1],h')) Q) : Tl (bnd (pNext (.pointer (some ⟨b,0,none⟩)) true h) K) Q:=by
 unfold pNext
 simp only [S.sta.mem.at_ hi]
 rw [if_pos hp]
 exact hk _ (S.set i hi _)
theorem Tl.nxtE {β : Type} {Q : β→Prop} {n0 : Nat} {h0 h : AH} {L : List (Nat × AO)} {O : List OS} {b pos : Nat} {s : ByteArray} {K : Value × AH→Option β} (S : Stt prog n0 h0 h L O) (i : Nat) (hi : L[i]? = some (b,.iter s pos)) (hp : ¬ pos < s.size)
  (hk : Tl (K (.tuple #[.bool false],h)) Q) : Tl (bnd (pNext (.pointer (some ⟨b,0,none⟩)) true h) K) Q:=by
 unfold pNext
 simp only [S.sta.mem.at_ hi]
 rw [if_neg hp]
 exact hk
theorem f64_loop {β : Type} {inv : Inv} {k : Nat} {Q : β→Prop} {n0 : Nat} {h0 : AH} {L : List (Nat × AO)} {O : List OS} {s : ByteArray} {b : Nat} (hl : s.size ≤ 100) {ke0 : Value→Value→Value→AH→Option β} {kr : Value→AH→Option β} (n : Nat) :
  ∀ {i j : Nat} {h : AH} {x3 x4 x19 x34 : Value},i + n = s.size→n < j→Stt prog n0 h0 h ((b,.iter s i) :: L) O→(nameF s n i = true→∀ y1 y2 y3 h',Stt prog n0 h0 h' ((b,.iter s s.size) :: L) O→Tl (ke0 y1 y2 y3 h') Q) →
   (nameF s n i = false→∀ h' p,Stt prog n0 h0 h' ((b,.iter s p) :: L) O→Tl (kr (.int .i64 170) h') Q)→Tl (F64_lrlrrlr inv k j x3 x4 (.pointer (some ⟨b,0,none⟩)) x19 x34 h ke0 kr) Q:=by
 induction n with
 | zero =>
  intro i j h x3 x4 x19 x34 hi hj S hk hr
  obtain ⟨j,rfl⟩ : ∃ q,j = q + 1:=⟨j - 1,by omega⟩
  simp only [F64_lrlrrlr]
  refine Tl.nxtE S 0 rfl (by omega) ?_
  with_reducible repeat (first | (apply qzV; simp (disch:=omega) only [zA,bzVg.1] <;> rfl) | apply qzT | apply qzF | apply qzG | ((first | apply qzB | apply qzC); simp (disch:=omega) only [zA,bzVg.1] <;> rfl))
  have : i = s.size:=by omega
  subst this
  exact hk rfl _ _ _ _ S
 | succ n ih =>
  intro i j h x3 x4 x19 x34 hi hj S hk hr
  obtain ⟨j,rfl⟩ : ∃ q,j = q + 1:=⟨j - 1,by omega⟩
  simp only [F64_lrlrrlr]
  refine Tl.nxt S 0 rfl (by omega) fun h1 S1=>?_
  have S1 : Stt prog n0 h0 h1 ((b,.iter s (i + (Utf8.decode s i).2)) :: L) O:=S1
  rw [nameF] at hk hr
  have good : okB (s.get! i).toNat i = true→∀ x3 x4 x19 x34,(Utf8.decode s i).2 = 1→Tl (F64_lrlrrlr inv k j x3 x4 (.pointer (some ⟨b,0,none⟩)) x19 x34 h1 ke0 kr) Q:=fun q x3 x4 x19 x34 hd=>by
   rw [q,Bool.true_and] at hk hr
   rw [hd] at S1
   exact ih (by omega) (by omega) S1 hk hr
  have bad : okB (s.get! i).toNat i = false→Tl (kr (.int .i64 170) h1) Q:=fun q=>hr (by rw [q,Bool.false_and]) _ _ S1
  unfold F64_rlllrlrrllrlrrlr
  by_cases hh : (s.get! i).toNat < 128
  ·have hd:=dec_low hh
   have hd1 : (Utf8.decode s i).1 = (s.get! i).toNat:=by rw [hd]
   have hd2 : (Utf8.decode s i).2 = 1:=by rw [hd]
   rw [hd1]
   clear hk hr ih hd
   revert good bad
   generalize (s.get! i).toNat = b at hh hd1 ⊢
   intro good bad
   have no : ¬ ((97 ≤ b ∧ b ≤ 122) ∨ (65 ≤ b ∧ b ≤ 90) ∨ b = 95 ∨ (0 < i ∧ 48 ≤ b ∧ b ≤ 57))→okB b i = false:=fun q=>decide_eq_false q
   have yes : ((97 ≤ b ∧ b ≤ 122) ∨ (65 ≤ b ∧ b ≤ 90) ∨ b = 95 ∨ (0 < i ∧ 48 ≤ b ∧ b ≤ 57))→okB b i = true:=fun q=>decide_eq_true q
   rcases classes b with c | c | c | c | c | c | c | c | c
   ·by_cases i0 : i = 0
    ·with_reducible repeat (first | (apply qzV; simp (disch:=omega) only [zA,bzVg.1] <;> rfl) | apply qzT | apply qzF | apply qzG | ((first | apply qzB | apply qzC); simp (disch:=omega) only [zA,bzVg.1] <;> rfl))
     exact bad (no (by omega))
    ·with_reducible repeat (first | (apply qzV; simp (disch:=omega) only [zA,bzVg.1] <;> rfl) | apply qzT | apply qzF | apply qzG | ((first | apply qzB | apply qzC); simp (disch:=omega) only [zA,bzVg.1] <;> rfl))
     exact bad (no (by omega))
   ·by_cases i0 : i = 0
    ·with_reducible repeat (first | (apply qzV; simp (disch:=omega) only [zA,bzVg.1] <;> rfl) | apply qzT | apply qzF | apply qzG | ((first | apply qzB | apply qzC); simp (disch:=omega) only [zA,bzVg.1] <;> rfl))
     exact bad (no (by omega))
    ·with_reducible repeat (first | (apply qzV; simp (disch:=omega) only [zA,bzVg.1] <;> rfl) | apply qzT | apply qzF | apply qzG | ((first | apply qzB | apply qzC); simp (disch:=omega) only [zA,bzVg.1] <;> rfl))
     exact good (yes (by omega)) _ _ _ _ hd2
   ·by_cases i0 : i = 0
    ·with_reducible repeat (first | (apply qzV; simp (disch:=omega) only [zA,bzVg.1] <;> rfl) | apply qzT | apply qzF | apply qzG | ((first | apply qzB | apply qzC); simp (disch:=omega) only [zA,bzVg.1] <;> rfl))
     exact bad (no (by omega))
    ·with_reducible repeat (first | (apply qzV; simp (disch:=omega) only [zA,bzVg.1] <;> rfl) | apply qzT | apply qzF | apply qzG | ((first | apply qzB | apply qzC); simp (disch:=omega) only [zA,bzVg.1] <;> rfl))
     exact bad (no (by omega))
   ·with_reducible repeat (first | (apply qzV; simp (disch:=omega) only [zA,bzVg.1] <;> rfl) | apply qzT | apply qzF | apply qzG | ((first | apply qzB | apply qzC); simp (disch:=omega) only [zA,bzVg.1] <;> rfl))
    exact good (yes (by omega)) _ _ _ _ hd2
   ·by_cases i0 : i = 0
    ·with_reducible repeat (first | (apply qzV; simp (disch:=omega) only [zA,bzVg.1] <;> rfl) | apply qzT | apply qzF | apply qzG | ((first | apply qzB | apply qzC); simp (disch:=omega) only [zA,bzVg.1] <;> rfl))
     exact bad (no (by omega))
    ·with_reducible repeat (first | (apply qzV; simp (disch:=omega) only [zA,bzVg.1] <;> rfl) | apply qzT | apply qzF | apply qzG | ((first | apply qzB | apply qzC); simp (disch:=omega) only [zA,bzVg.1] <;> rfl))
     exact bad (no (by omega))
   ·with_reducible repeat (first | (apply qzV; simp (disch:=omega) only [zA,bzVg.1] <;> rfl) | apply qzT | apply qzF | apply qzG | ((first | apply qzB | apply qzC); simp (disch:=omega) only [zA,bzVg.1] <;> rfl))
    exact good (yes (by omega)) _ _ _ _ hd2
   ·by_cases i0 : i = 0
    ·with_reducible repeat (first | (apply qzV; simp (disch:=omega) only [zA,bzVg.1] <;> rfl) | apply qzT | apply qzF | apply qzG | ((first | apply qzB | apply qzC); simp (disch:=omega) only [zA,bzVg.1] <;> rfl))
     exact bad (no (by omega))
    ·with_reducible repeat (first | (apply qzV; simp (disch:=omega) only [zA,bzVg.1] <;> rfl) | apply qzT | apply qzF | apply qzG | ((first | apply qzB | apply qzC); simp (disch:=omega) only [zA,bzVg.1] <;> rfl))
     exact bad (no (by omega))
   ·with_reducible repeat (first | (apply qzV; simp (disch:=omega) only [zA,bzVg.1] <;> rfl) | apply qzT | apply qzF | apply qzG | ((first | apply qzB | apply qzC); simp (disch:=omega) only [zA,bzVg.1] <;> rfl))
    exact good (yes (by omega)) _ _ _ _ hd2
   ·by_cases i0 : i = 0
    ·with_reducible repeat (first | (apply qzV; simp (disch:=omega) only [zA,bzVg.1] <;> rfl) | apply qzT | apply qzF | apply qzG | ((first | apply qzB | apply qzC); simp (disch:=omega) only [zA,bzVg.1] <;> rfl))
     exact bad (no (by omega))
    ·with_reducible repeat (first | (apply qzV; simp (disch:=omega) only [zA,bzVg.1] <;> rfl) | apply qzT | apply qzF | apply qzG | ((first | apply qzB | apply qzC); simp (disch:=omega) only [zA,bzVg.1] <;> rfl))
     exact bad (no (by omega))
  ·have hd1:=dec_high (s:=s) (i:=i) (by omega)
   have nb : okB (s.get! i).toNat i = false:=decide_eq_false (by omega)
   generalize (Utf8.decode s i).1 = r at hd1 ⊢
   by_cases i0 : i = 0
   ·with_reducible repeat (first | (apply qzV; simp (disch:=omega) only [zA,bzVg.1] <;> rfl) | apply qzT | apply qzF | apply qzG | ((first | apply qzB | apply qzC); simp (disch:=omega) only [zA,bzVg.1] <;> rfl))
    exact bad nb
   ·with_reducible repeat (first | (apply qzV; simp (disch:=omega) only [zA,bzVg.1] <;> rfl) | apply qzT | apply qzF | apply qzG | ((first | apply qzB | apply qzC); simp (disch:=omega) only [zA,bzVg.1] <;> rfl))
    exact bad nb
theorem f64c {k : Nat} (s : ByteArray) (h : AH) : Tl (eInv env (k + 101) (.func 64) #[] #[.string s] h) fun r=>r.1 = .int .i64 (if nameOk s then 0 else 170) ∧ Grow h r.2:=by
 rw [F64_call]
 have hs : ∀ h' : AH,pLen prog #[9] (.string s) h' = some (.int .i64 s.size):=fun h'=>len_string u9
 unfold F64 nameOk
 by_cases s0 : 1 ≤ s.size
 ·by_cases s1 : s.size ≤ 32
  ·rw [decide_eq_true s0,decide_eq_true s1,Bool.true_and,Bool.true_and]
   have hrg : pRange prog 9 (.string s) h = some (.pointer (some ⟨h.n,0,none⟩),h.alloc (.iter s 0)):=by
    unfold pRange
    rw [u9]
   with_reducible repeat (first | (apply qzV; simp (disch:=omega) only [zA,bzVg.1,hs,hrg] <;> rfl) | apply qzT | apply qzF | apply qzG | ((first | apply qzB | apply qzC); simp (disch:=omega) only [zA,bzVg.1,hs,hrg] <;> rfl))
   have S:=(Stt.init h : Stt prog h.n h h [] []).alloc (.iter s 0)
   refine f64_loop (by omega) s.size (i:=0) (by omega) (by omega) S (fun q y1 y2 y3 h' S'=>?_) fun q h' p S'=>?_
   ·rw [q]; exact ⟨_,rfl,rfl,S'.grow⟩
   ·rw [q]; exact ⟨_,rfl,rfl,S'.grow⟩
  ·rw [decide_eq_true s0,decide_eq_false s1,Bool.true_and,Bool.false_and]
   with_reducible repeat (first | (apply qzV; simp (disch:=omega) only [zA,bzVg.1,hs] <;> rfl) | apply qzT | apply qzF | apply qzG | ((first | apply qzB | apply qzC); simp (disch:=omega) only [zA,bzVg.1,hs] <;> rfl))
   exact ⟨_,rfl,rfl,Grow.refl _⟩
 ·rw [decide_eq_false s0,Bool.false_and,Bool.false_and]
  with_reducible repeat (first | (apply qzV; simp (disch:=omega) only [zA,bzVg.1,hs] <;> rfl) | apply qzT | apply qzF | apply qzG | ((first | apply qzB | apply qzC); simp (disch:=omega) only [zA,bzVg.1,hs] <;> rfl))
  exact ⟨_,rfl,rfl,Grow.refl _⟩
end Go.Proofs.YtlbmlncdjkdoaaaGreat.Sh
/- Which columns may be, as the document and as the schema's package tell; rows that fit. -/
set_option linter.unusedVariables false
set_option linter.unusedSimpArgs false
set_option maxRecDepth 100000
namespace Go.Proofs.YtlbmlncdjkdoaaaGreat.Sh
open Go Go.RowKit Go.Proofs.Ev
open Tryz (prog)
def bzVh:=PLift.up (ai @ld3 (ai @ld2 (ai @ld4 (ai @ld9 (ai @ld39 (ai @ld73 (ai @fa39_0 (ai @fa39_1 (ai @fa39_2 (ai @fa73_0 (ai @fa73_1 (ai @fa73_2 (@Nat.add_zero)))))))))))))
structure ColD where
 name : ByteArray
 kind : Int
 null : Bool
def colrow (c : ColD) : List Value:=[.string c.name,.int .i64 c.kind,.bool c.null]
def Cols (h : AH) (v : Value) (l : List ColD) : Prop:=SlZ prog h v 3 (l.map colrow)
theorem Cols.grow {h h' : AH} {v : Value} {l : List ColD} (S : Cols h v l) (g : Grow h h') : Cols h' v l:=SlZ.grow S g
theorem Cols.len {h h' : AH} {v : Value} {l : List ColD} (S : Cols h v l) : pLen prog #[22] v h' = some (.int .i64 l.length):=by
 have:=SlZ.len S u22 (h':=h')
 rwa [List.length_map] at this
theorem Cols.at_ {h : AH} {v : Value} {l : List ColD} (S : Cols h v l) {i : Nat} {x : ColD} (hi : l[i]? = some x) :
  ∃ b o,pIndexAddr prog 22 v (.int .i64 i) = some (.pointer (some ⟨b,o,none⟩)) ∧ h.row b o 3 = some (colrow x) :=
 SlZ.at_ S (k:=.i64) (by simp [hi]) u22 sz73
theorem Cols.take {h : AH} {v : Value} {l : List ColD} (S : Cols h v l) {i : Nat} (hi : i ≤ l.length) : ∃ v',(∀ h',pSlice prog 22 v none (some (.int .i64 i)) none h' = some v') ∧ Cols h v' (l.take i):=by
 obtain ⟨v',h1,h2,_⟩:=SlZ.take S u22 sz73 (k:=.i64) (i:=i) (by simpa using hi)
 exact ⟨v',h1,by rw [← List.map_take] at h2; exact h2⟩
/-! ### Light columns -/
def lightC (l : List ColD) : Bool:=(l.all fun c=>decide (c.name.size ≤ 60)) && decide (l.length ≤ 20)
theorem f17_loop {β : Type} {inv : Inv} {k : Nat} {Q : β→Prop} {h : AH} {v : Value} {l : List ColD} (S : Cols h v l) (hl : l.length ≤ 9223372036854775807) {ke0 : Value→Value→Value→AH→Option β} {kr : Value→AH→Option β} (n : Nat) :
  ∀ {i j : Nat},i + n = l.length→n < j→(((l.drop i).all fun c=>decide (c.name.size ≤ 60)) = true→∀ y1 y2,Tl (ke0 v y1 y2 h) Q)→(((l.drop i).all fun c=>decide (c.name.size ≤ 60)) = false→Tl (kr (.bool false) h) Q) →
   Tl (F17_lrlr inv k j v (.int .i64 i) h ke0 kr) Q:=by
 have hv : ∀ h',pLen prog #[22] v h' = some (.int .i64 l.length):=fun h'=>S.len
 induction n with
 | zero =>
  intro i j hi hj hk hr
  obtain ⟨j,rfl⟩ : ∃ q,j = q + 1:=⟨j - 1,by omega⟩
  simp only [F17_lrlr]
  with_reducible repeat (first | (apply qzV; simp (disch:=omega) only [zA,bzVh.1,hv] <;> rfl) | apply qzT | apply qzF | (apply qzB; simp (disch:=omega) only [zA,bzVh.1,hv] <;> rfl))
  exact hk (by rw [List.drop_eq_nil_of_le (by omega)]; rfl) _ _
 | succ n ih =>
  intro i j hi hj hk hr
  obtain ⟨j,rfl⟩ : ∃ q,j = q + 1:=⟨j - 1,by omega⟩
  obtain ⟨x,ex⟩ : ∃ x,l[i]? = some x:=⟨_,List.getElem?_eq_getElem (by omega)⟩
  obtain ⟨b,o,hp,hrow⟩:=S.at_ ex
  have c0 : h.cell b o = some (.string x.name):=Ev.cell_of_row (j:=0) hrow (by omega)
  have hs : ∀ h' : AH,pLen prog #[9] (.string x.name) h' = some (.int .i64 x.name.size):=fun h'=>len_string u9
  have e : (i : Int) + 1 = ((i + 1 : Nat) : Int):=by omega
  simp only [F17_lrlr]
  rw [drop_at ex,List.all_cons] at hk hr
  by_cases q2 : x.name.size ≤ 60
  ·rw [decide_eq_true q2,Bool.true_and] at hk hr
   with_reducible repeat (first | (apply qzV; simp (disch:=omega) only [zA,bzVh.1,hv,hp,c0,hs] <;> rfl) | apply qzT | apply qzF | (apply qzB; simp (disch:=omega) only [zA,bzVh.1,hv,hp,c0,hs] <;> rfl))
   rw [e]
   exact ih (by omega) (by omega) hk hr
  ·rw [decide_eq_false q2,Bool.false_and] at hr
   with_reducible repeat (first | (apply qzV; simp (disch:=omega) only [zA,bzVh.1,hv,hp,c0,hs] <;> rfl) | apply qzT | apply qzF | (apply qzB; simp (disch:=omega) only [zA,bzVh.1,hv,hp,c0,hs] <;> rfl))
   exact hr rfl
theorem f17c {k : Nat} {h : AH} {v : Value} {l : List ColD} (S : Cols h v l) (hl : l.length ≤ 9223372036854775807) (hk : l.length < k) : eInv env (k + 1) (.func 17) #[] #[v] h = some (.bool (lightC l),h):=by
 rw [F17_call]
 have T : Tl (F17 (eInv env k) k v h) fun r=>r = (.bool (lightC l),h):=by
  unfold F17
  have hv : ∀ h',pLen prog #[22] v h' = some (.int .i64 l.length):=fun h'=>S.len
  refine f17_loop S hl l.length (i:=0) (by omega) hk (fun q y1 y2=>?_) fun q=>⟨_,rfl,?_⟩
  ·rw [List.drop_zero] at q
   with_reducible repeat (first | (apply qzV; simp (disch:=omega) only [zA,bzVh.1,hv] <;> rfl) | apply qzT | apply qzF | (apply qzB; simp (disch:=omega) only [zA,bzVh.1,hv] <;> rfl))
   refine ⟨_,rfl,?_⟩
   unfold lightC
   rw [q,Bool.true_and]
   congr 2
   simp
   omega
  ·rw [List.drop_zero] at q
   unfold lightC
   rw [q,Bool.false_and]
 obtain ⟨r,h1,h2⟩:=T
 rw [h1,h2]
/-! ### Columns that may be -/
def colsF : List ColD→List ColD→Bool
 | _,[]=>true
 | pre,c :: l=>nameOk c.name && (decide (1 ≤ c.kind ∧ c.kind ≤ 3) && (!(pre.any fun o=>decide (o.name = c.name)) && colsF (pre ++ [c]) l))
def colsOk (l : List ColD) : Bool:=decide (1 ≤ l.length) && (decide (l.length ≤ 16) && colsF [] l)
/-- The error of columns, as both tell it. -/
def colsFE : List ColD→List ColD→Int
 | _,[]=>0
 | pre,c :: l=>if nameOk c.name = true then (if 1 ≤ c.kind ∧ c.kind ≤ 3 then (if (pre.any fun o=>decide (o.name = c.name)) = true then 171 else colsFE (pre ++ [c]) l) else 171) else 170
def colsE (l : List ColD) : Int:=if 1 ≤ l.length ∧ l.length ≤ 16 then colsFE [] l else 171
theorem colsFE_zero : ∀ (pre l : List ColD),colsFE pre l = 0 ↔ colsF pre l = true
 | _,[]=>by simp [colsFE,colsF]
 | pre,c :: l=>by
  have ih:=colsFE_zero (pre ++ [c]) l
  unfold colsFE colsF
  cases q1 : nameOk c.name with
  | false=>simp
  | true =>
   by_cases q2 : 1 ≤ c.kind ∧ c.kind ≤ 3
   ·cases q3 : pre.any fun o=>decide (o.name = c.name) with
    | false=>rw [if_pos rfl,if_pos q2,if_neg (by simp),ih,decide_eq_true q2]; simp
    | true=>rw [if_pos rfl,if_pos q2,if_pos rfl]; simp
   ·rw [if_pos rfl,if_neg q2,decide_eq_false q2]; simp
theorem colsE_zero (l : List ColD) : colsE l = 0 ↔ colsOk l = true:=by
 unfold colsE colsOk
 by_cases q : 1 ≤ l.length ∧ l.length ≤ 16
 ·rw [if_pos q,colsFE_zero,decide_eq_true q.1,decide_eq_true q.2]; simp
 ·rw [if_neg q]
  by_cases q1 : 1 ≤ l.length
  ·have q2 : ¬ l.length ≤ 16:=fun h=>q ⟨q1,h⟩
   simp [q2]
  ·simp [q1]
end Go.Proofs.YtlbmlncdjkdoaaaGreat.Sh
/- Rows that fit, as the document tells; the schema's own check of columns. -/
set_option linter.unusedVariables false
set_option linter.unusedSimpArgs false
set_option maxRecDepth 100000
namespace Go.Proofs.YtlbmlncdjkdoaaaGreat.Sh
open Go Go.RowKit Go.Proofs.Ev
open Tryz (prog)
def bzVi:=PLift.up (ai @ld3 (ai @ld2 (ai @ld4 (ai @ld9 (ai @ld39 (ai @ld73 (ai @fa39_0 (ai @fa39_1 (ai @fa39_2 (ai @fa73_0 (ai @fa73_1 (ai @fa73_2 (@Nat.add_zero)))))))))))))
def colv (c : ColD) : Value:=.agg #[.string c.name,.int .i64 c.kind,.bool c.null]
def fitC (c : ColD) (v : CellD) : Bool:=cellOk v && (decide (v.k = c.kind) || (decide (v.k = 0) && c.null))
def fitE (c : ColD) (v : CellD) : Int:=if cellOk v = true then (if v.k = c.kind ∨ (v.k = 0 ∧ c.null = true) then 0 else 173) else 160
theorem fitE_zero (c : ColD) (v : CellD) : fitE c v = 0 ↔ fitC c v = true:=by
 unfold fitE fitC
 cases q0 : cellOk v with
 | false=>simp
 | true =>
  by_cases q : v.k = c.kind ∨ (v.k = 0 ∧ c.null = true)
  ·rw [if_pos rfl,if_pos q]
   simpa using q
  ·rw [if_pos rfl,if_neg q]
   simpa using q
def fitsL : List ColD→List CellD→Bool
 | [],[]=>true
 | c :: cs,v :: vs=>fitC c v && fitsL cs vs
 | _,_=>false
def rowOk (cols : List ColD) (row : List CellD) : Bool:=colsOk cols && (decide (row.length = cols.length) && fitsL cols row)
def fitsE : List ColD→List CellD→Int
 | c :: cs,v :: vs=>if fitE c v = 0 then fitsE cs vs else fitE c v
 | _,_=>0
theorem fitsE_zero : ∀ {cs : List ColD} {vs : List CellD},vs.length = cs.length→(fitsE cs vs = 0 ↔ fitsL cs vs = true)
 | [],[],_=>by simp [fitsE,fitsL]
 | [],_ :: _,h=>by simp at h
 | _ :: _,[],h=>by simp at h
 | c :: cs,v :: vs,h=>by
  have ih:=fitsE_zero (cs:=cs) (vs:=vs) (by simpa using h)
  have hz:=fitE_zero c v
  unfold fitsE fitsL
  by_cases q : fitE c v = 0
  ·rw [if_pos q,ih,hz.1 q,Bool.true_and]
  ·rw [if_neg q]
   have : fitC c v = false:=by
    cases hf : fitC c v with
    | false=>rfl
    | true=>exact absurd (hz.2 hf) q
   rw [this,Bool.false_and]
   simp [q]
def rowE (cols : List ColD) (row : List CellD) : Int:=if colsE cols = 0 then (if row.length = cols.length then fitsE cols row else 173) else colsE cols
theorem rowE_zero (cols : List ColD) (row : List CellD) : rowE cols row = 0 ↔ rowOk cols row = true:=by
 have hz:=colsE_zero cols
 unfold rowE rowOk
 by_cases q : colsE cols = 0
 ·rw [if_pos q,hz.1 q,Bool.true_and]
  by_cases q2 : row.length = cols.length
  ·rw [if_pos q2,decide_eq_true q2,Bool.true_and,fitsE_zero q2]
  ·rw [if_neg q2,decide_eq_false q2,Bool.false_and]; simp
 ·rw [if_neg q]
  have : colsOk cols = false:=by
   cases hf : colsOk cols with
   | false=>rfl
   | true=>exact absurd (hz.2 hf) q
  rw [this,Bool.false_and]
  simp [q]
theorem f83_loop {β : Type} {k : Nat} {Q : β→Prop} {h0 : AH} {v fv : Value} {l : List ColD} {p : ColD→Bool} (S : Cols h0 v l) (hl : l.length ≤ 1000)
  (hcall : ∀ c h,Grow h0 h→Tl (callV (eInv env k) fv #[colv c] h) fun r=>r.1 = .bool (p c) ∧ Grow h r.2) {ke0 : Value→Value→Value→Value→Value→AH→Option β} {kr : Value→AH→Option β} (n : Nat) :
  ∀ {i j : Nat} {h : AH},i + n = l.length→n < j→Grow h0 h→((l.drop i).any p = false→∀ y1 y2 y3 y4 y5 h',Grow h0 h'→Tl (ke0 y1 y2 y3 y4 y5 h') Q)→((l.drop i).any p = true→∀ (m : Nat) h',Grow h0 h'→Tl (kr (.int .i64 (m : Nat)) h') Q) →
   Tl (F83_lrlr (eInv env k) k j v fv (.int .i64 l.length) (.int .i64 i) h ke0 kr) Q:=by
 induction n with
 | zero =>
  intro i j h hi hj g hk hr
  obtain ⟨j,rfl⟩ : ∃ q,j = q + 1:=⟨j - 1,by omega⟩
  simp only [F83_lrlr]
  with_reducible repeat (first | (apply qzV; simp (disch:=omega) only [zA,bzVi.1] <;> rfl) | apply qzT | apply qzF | (apply qzB; simp (disch:=omega) only [zA,bzVi.1] <;> rfl))
  exact hk (by rw [List.drop_eq_nil_of_le (by omega)]; rfl) _ _ _ _ _ _ g
 | succ n ih =>
  intro i j h hi hj g hk hr
  obtain ⟨j,rfl⟩ : ∃ q,j = q + 1:=⟨j - 1,by omega⟩
  obtain ⟨x,ex⟩ : ∃ x,l[i]? = some x:=⟨_,List.getElem?_eq_getElem (by omega)⟩
  obtain ⟨b,o,hp,hrow⟩:=S.at_ ex
  have hrow':=g.row hrow
  have e : (i : Int) + 1 = ((i + 1 : Nat) : Int):=by omega
  rw [drop_at ex,List.any_cons] at hk hr
  simp only [F83_lrlr]
  with_reducible repeat (first | (apply qzV; simp (disch:=omega) only [zA,bzVi.1,hp,hrow'] <;> rfl) | apply qzT | apply qzF | (apply qzB; simp (disch:=omega) only [zA,bzVi.1,hp,hrow'] <;> rfl))
  refine Tl.bind (hcall x h g) ?_
  rintro ⟨r,h1⟩ ⟨er,g1⟩
  simp only at er g1
  subst er
  cases q : p x with
  | true =>
   rw [q,Bool.true_or] at hr
   with_reducible repeat (first | (apply qzV; simp (disch:=omega) only [zA,bzVi.1] <;> rfl) | apply qzT | apply qzF | (apply qzB; simp (disch:=omega) only [zA,bzVi.1] <;> rfl))
   exact hr rfl i _ (g.trans g1)
  | false =>
   rw [q,Bool.false_or] at hk hr
   with_reducible repeat (first | (apply qzV; simp (disch:=omega) only [zA,bzVi.1] <;> rfl) | apply qzT | apply qzF | (apply qzB; simp (disch:=omega) only [zA,bzVi.1] <;> rfl))
   rw [e]
   exact ih (by omega) (by omega) (g.trans g1) hk hr
theorem f65c {k : Nat} {h : AH} {v fv : Value} {l : List ColD} {p : ColD→Bool} (S : Cols h v l) (hl : l.length ≤ 1000) (hk : l.length < k) (hcall : ∀ c h',Grow h h'→Tl (callV (eInv env k) fv #[colv c] h') fun r=>r.1 = .bool (p c) ∧ Grow h' r.2) :
  Tl (eInv env (k + 2) (.func 65) #[] #[v,fv] h) fun r=>r.1 = .bool (l.any p) ∧ Grow h r.2:=by
 rw [F65_call]
 unfold F65
 have hv : ∀ h',pLen prog #[22] v h' = some (.int .i64 l.length):=fun h'=>S.len
 have T : Tl (eInv env (k + 1) (.func 83) #[] #[v,fv] h) fun r=>(∃ z : Int,r.1 = .int .i64 z ∧ (decide (z ≥ 0)) = l.any p) ∧ Grow h r.2:=by
  rw [F83_call]
  unfold F83
  with_reducible repeat (first | (apply qzV; simp (disch:=omega) only [zA,bzVi.1,hv] <;> rfl) | apply qzT | apply qzF | (apply qzB; simp (disch:=omega) only [zA,bzVi.1,hv] <;> rfl))
  refine f83_loop S hl hcall l.length (i:=0) (by omega) hk (Grow.refl _) (fun q y1 y2 y3 y4 y5 h' g=>?_) fun q m h' g=>?_
  ·exact ⟨_,rfl,⟨_,rfl,by rw [List.drop_zero] at q; rw [q]; rfl⟩,g⟩
  ·exact ⟨_,rfl,⟨_,rfl,by rw [List.drop_zero] at q; rw [q]; simp⟩,g⟩
 refine Tl.bind T ?_
 rintro ⟨r,h1⟩ ⟨⟨z,er,hz⟩,g⟩
 simp only at er g
 subst er
 with_reducible repeat (first | (apply qzV; simp (disch:=omega) only [zA,bzVi.1] <;> rfl) | apply qzT | apply qzF | (apply qzB; simp (disch:=omega) only [zA,bzVi.1] <;> rfl))
 exact ⟨_,rfl,by rw [hz],g⟩
theorem f66c {k : Nat} (c o : ColD) {h : AH} {bc : Nat} (hc : h.cell bc 0 = some (.string c.name)) : Tl (callV (eInv env (k + 1)) (.func (.func 66) #[] #[.pointer (some ⟨bc,0,none⟩)]) #[colv o] h) fun r=>r.1 = .bool (decide (o.name = c.name)) ∧ Grow h r.2:=by
 rw [callV_cap1 (by kernel_rfl),F66_eq]
 unfold F66
 refine Tl.box' (Stt.init h) rfl (by rw [sz73]; rfl) fun b1 h1 S1 g1=>?_
 have c0 : h1.cell b1 0 = some (.string o.name):=S1.cell 0 rfl rfl
 have c1:=g1.cell hc
 have hq : ∀ x y,pBin prog .eql 9 x y (.string o.name) (.string c.name) = some (.bool (decide (o.name = c.name))):=fun _ _=>bin_eql_string
 with_reducible repeat (first | (apply qzV; simp (disch:=omega) only [zA,bzVi.1,c0,c1,hq] <;> rfl) | apply qzT | apply qzF | (apply qzB; simp (disch:=omega) only [zA,bzVi.1,c0,c1,hq] <;> rfl))
 exact ⟨_,rfl,rfl,S1.grow⟩
theorem f42_loop {β : Type} {k : Nat} {Q : β→Prop} {h0 : AH} {v : Value} {l : List ColD} (S : Cols h0 v l) (hl : l.length ≤ 16) {ke0 : Value→Value→Value→Value→Value→AH→Option β} {kr : Value→AH→Option β} (n : Nat) :
  ∀ {i j : Nat} {h : AH},i + n = l.length→n < j→Grow h0 h→(colsFE (l.take i) (l.drop i) = 0→∀ y1 y2 y3 y4 y5 h',Grow h0 h'→Tl (ke0 y1 y2 y3 y4 y5 h') Q)→(colsFE (l.take i) (l.drop i) ≠ 0→∀ h',Grow h0 h'→Tl (kr (.int .i64 (colsFE (l.take i) (l.drop i))) h') Q) →
   Tl (F42_lrlrr (eInv env (k + 200)) (k + 200) j v v (.int .i64 l.length) (.int .i64 i) h ke0 kr) Q:=by
 induction n with
 | zero =>
  intro i j h hi hj g hk hr
  obtain ⟨j,rfl⟩ : ∃ q,j = q + 1:=⟨j - 1,by omega⟩
  simp only [F42_lrlrr]
  with_reducible repeat (first | (apply qzV; simp (disch:=omega) only [zA,bzVi.1] <;> rfl) | apply qzT | apply qzF | apply qzG | ((first | apply qzB | apply qzC); simp (disch:=omega) only [zA,bzVi.1] <;> rfl))
  exact hk (by rw [List.drop_eq_nil_of_le (by omega)]; rfl) _ _ _ _ _ _ g
 | succ n ih =>
  intro i j h hi hj g hk hr
  obtain ⟨j,rfl⟩ : ∃ q,j = q + 1:=⟨j - 1,by omega⟩
  obtain ⟨x,ex⟩ : ∃ x,l[i]? = some x:=⟨_,List.getElem?_eq_getElem (by omega)⟩
  obtain ⟨b,o,hp,hrow⟩:=S.at_ ex
  have hrow':=g.row hrow
  have e : (i : Int) + 1 = ((i + 1 : Nat) : Int):=by omega
  simp only [F42_lrlrr]
  rw [drop_at ex,colsFE] at hk hr
  with_reducible repeat (first | (apply qzV; simp (disch:=omega) only [zA,bzVi.1,hp,hrow'] <;> rfl) | apply qzT | apply qzF | apply qzG | ((first | apply qzB | apply qzC); simp (disch:=omega) only [zA,bzVi.1,hp,hrow'] <;> rfl))
  refine Tl.alloc' (Stt.init h) ze73 (by rfl) fun b4 h1 S1 g1=>?_
  refine Tl.store' S1 0 rfl sz73 rfl rfl (by simp [Value.cells]) fun h2 S2 k2=>?_
  have S2 : Stt prog h.n h h2 [(b4,.cells (colrow x) 73 true)] []:=S2
  have c0 : h2.cell b4 0 = some (.string x.name):=S2.cell 0 rfl rfl
  with_reducible repeat (first | (apply qzV; simp (disch:=omega) only [zA,bzVi.1,c0] <;> rfl) | apply qzT | apply qzF | apply qzG | ((first | apply qzB | apply qzC); simp (disch:=omega) only [zA,bzVi.1,c0] <;> rfl))
  refine Tl.call' S2 (f64c (k:=k + 99) x.name h2) fun h3 S3 g3=>?_
  have c1 : h3.cell b4 1 = some (.int .i64 x.kind):=S3.cell 0 rfl rfl
  have g03:=g.trans S3.grow
  cases q1 : nameOk x.name with
  | false =>
   rw [if_neg (by rw [q1]; simp)] at hr
   simp only [Bool.false_eq_true,if_false]
   with_reducible repeat (first | (apply qzV; simp (disch:=omega) only [zA,bzVi.1] <;> rfl) | apply qzT | apply qzF | apply qzG | ((first | apply qzB | apply qzC); simp (disch:=omega) only [zA,bzVi.1] <;> rfl))
   exact hr (by omega) _ g03
  | true =>
   rw [if_pos q1] at hk hr
   simp only [if_true]
   by_cases q2 : 1 ≤ x.kind ∧ x.kind ≤ 3
   ·rw [if_pos q2] at hk hr
    obtain ⟨q21,q22⟩:=q2
    obtain ⟨tv,htv,T⟩:=S.take (i:=i) (by omega)
    have mf : pMakeFunc (Go.Fn.func 66) #[] #[.pointer (some ⟨b4,0,none⟩)] = some (.func (.func 66) #[] #[.pointer (some ⟨b4,0,none⟩)]):=rfl
    with_reducible repeat (first | (apply qzV; simp (disch:=omega) only [zA,bzVi.1,c1,htv,mf] <;> rfl) | apply qzT | apply qzF | apply qzG | ((first | apply qzB | apply qzC); simp (disch:=omega) only [zA,bzVi.1,c1,htv,mf] <;> rfl))
    refine Tl.call' S3 (f65c (k:=k + 198) (p:=fun o=>decide (o.name = x.name)) (T.grow g03) (by simp; omega) (by simp; omega) fun o h' g'=>f66c (k:=k + 197) x o ((g3.trans g').cell c0)) fun h4 S4 g4=>?_
    have g04:=g.trans S4.grow
    cases q3 : (l.take i).any fun o=>decide (o.name = x.name) with
    | true =>
     rw [if_pos q3] at hr
     with_reducible repeat (first | (apply qzV; simp (disch:=omega) only [zA,bzVi.1] <;> rfl) | apply qzT | apply qzF | apply qzG | ((first | apply qzB | apply qzC); simp (disch:=omega) only [zA,bzVi.1] <;> rfl))
     exact hr (by omega) _ g04
    | false =>
     rw [if_neg (by rw [q3]; simp)] at hk hr
     with_reducible repeat (first | (apply qzV; simp (disch:=omega) only [zA,bzVi.1] <;> rfl) | apply qzT | apply qzF | apply qzG | ((first | apply qzB | apply qzC); simp (disch:=omega) only [zA,bzVi.1] <;> rfl))
     rw [e]
     have et : l.take i ++ [x] = l.take (i + 1):=by rw [List.take_add_one,ex]; rfl
     rw [et] at hk hr
     exact ih (by omega) (by omega) g04 hk hr
   ·rw [if_neg q2] at hr
    by_cases q21 : 1 ≤ x.kind
    ·have q22 : ¬ x.kind ≤ 3:=fun h=>q2 ⟨q21,h⟩
     with_reducible repeat (first | (apply qzV; simp (disch:=omega) only [zA,bzVi.1,c1] <;> rfl) | apply qzT | apply qzF | apply qzG | ((first | apply qzB | apply qzC); simp (disch:=omega) only [zA,bzVi.1,c1] <;> rfl))
     exact hr (by omega) _ g03
    ·with_reducible repeat (first | (apply qzV; simp (disch:=omega) only [zA,bzVi.1,c1] <;> rfl) | apply qzT | apply qzF | apply qzG | ((first | apply qzB | apply qzC); simp (disch:=omega) only [zA,bzVi.1,c1] <;> rfl))
     exact hr (by omega) _ g03
theorem f42x {k : Nat} {h : AH} {v : Value} {l : List ColD} (S : Cols h v l) (hl : l.length ≤ 9223372036854775807) : Tl (eInv env (k + 201) (.func 42) #[] #[v] h) fun r=>r.1 = .int .i64 (colsE l) ∧ Grow h r.2:=by
 rw [F42_call]
 have hv : ∀ h',pLen prog #[22] v h' = some (.int .i64 l.length):=fun h'=>S.len
 unfold F42 colsE
 by_cases s0 : 1 ≤ l.length
 ·by_cases s1 : l.length ≤ 16
  ·rw [if_pos ⟨s0,s1⟩]
   with_reducible repeat (first | (apply qzV; simp (disch:=omega) only [zA,bzVi.1,hv] <;> rfl) | apply qzT | apply qzF | apply qzG | ((first | apply qzB | apply qzC); simp (disch:=omega) only [zA,bzVi.1,hv] <;> rfl))
   refine f42_loop S s1 l.length (i:=0) (by omega) (by omega) (Grow.refl _) (fun q y1 y2 y3 y4 y5 h' g=>?_) fun q h' g=>?_
   ·rw [List.drop_zero,List.take_zero] at q
    exact ⟨_,rfl,by rw [q],g⟩
   ·rw [List.drop_zero,List.take_zero]
    exact ⟨_,rfl,rfl,g⟩
  ·rw [if_neg (fun h=>s1 h.2)]
   with_reducible repeat (first | (apply qzV; simp (disch:=omega) only [zA,bzVi.1,hv] <;> rfl) | apply qzT | apply qzF | apply qzG | ((first | apply qzB | apply qzC); simp (disch:=omega) only [zA,bzVi.1,hv] <;> rfl))
   exact ⟨_,rfl,rfl,Grow.refl _⟩
 ·rw [if_neg (fun h=>s0 h.1)]
  with_reducible repeat (first | (apply qzV; simp (disch:=omega) only [zA,bzVi.1,hv] <;> rfl) | apply qzT | apply qzF | apply qzG | ((first | apply qzB | apply qzC); simp (disch:=omega) only [zA,bzVi.1,hv] <;> rfl))
  exact ⟨_,rfl,rfl,Grow.refl _⟩
end Go.Proofs.YtlbmlncdjkdoaaaGreat.Sh
/- Groups: rows turned about, which may be put. No program's step in sight. -/
set_option linter.unusedVariables false
set_option linter.unusedSimpArgs false
set_option maxRecDepth 100000
namespace Go.Proofs.YtlbmlncdjkdoaaaGreat.Sh
open Go Go.RowKit Go.Proofs.Ev Go.Lib
def colL (rows : List (List CellD)) (c : Nat) : List CellD:=rows.map fun r=>(r[c]?).getD c0
def kindAt (cols : List ColD) (c : Nat) : Int:=((cols[c]?).map fun x=>x.kind).getD 0
def segAt (cols : List ColD) (rows : List (List CellD)) (c : Nat) : ByteArray:=strB (segB (kindAt cols c) (colL rows c))
def segsL (cols : List ColD) (rows : List (List CellD)) : List ByteArray:=(List.range cols.length).map (segAt cols rows)
def putOk (cols : List ColD) (rows : List (List CellD)) : Prop:=colsE cols = 0 ∧ (1 ≤ rows.length ∧ rows.length ≤ 64) ∧ ∀ r ∈ rows,rowE cols r = 0
theorem colL_len (rows : List (List CellD)) (c : Nat) : (colL rows c).length = rows.length:=List.length_map ..
theorem colL_app (a b : List (List CellD)) (c : Nat) : colL (a ++ b) c = colL a c ++ colL b c:=by unfold colL; rw [List.map_append]
theorem segsL_len (cols : List ColD) (rows : List (List CellD)) : (segsL cols rows).length = cols.length:=by simp [segsL]
theorem segsL_at {cols : List ColD} {rows : List (List CellD)} {c : Nat} (h : c < cols.length) : (segsL cols rows)[c]? = some (segAt cols rows c):=by
 simp [segsL,h]
theorem fits_at : ∀ {cols : List ColD} {row : List CellD},fitsL cols row = true→∀ {c : Nat} {col : ColD},cols[c]? = some col→∃ v,row[c]? = some v ∧ fitC col v = true
 | [],[],_,c,col,h=>by simp at h
 | [],_ :: _,h,_,_,_=>by simp [fitsL] at h
 | _ :: _,[],h,_,_,_=>by simp [fitsL] at h
 | a :: cols,v :: row,h,c,col,hc=>by
  simp only [fitsL,Bool.and_eq_true] at h
  cases c with
  | zero =>
   simp only [List.getElem?_cons_zero,Option.some.injEq] at hc
   subst hc
   exact ⟨v,rfl,h.1⟩
  | succ c=>exact fits_at h.2 (by simpa using hc)
theorem cellOk_E {c : CellD} (h : cellOk c = true) : cellE c = 0 ∧ c.s.size ≤ 256:=by
 have hz : ok9 c ∧ c.s.size ≤ 256:=by
  unfold cellOk at h
  unfold ok9
  by_cases p0 : c.k = 0
  ·rw [if_pos p0] at h ⊢
   simp only [Bool.and_eq_true,decide_eq_true_eq] at h
   exact ⟨h,by omega⟩
  ·rw [if_neg p0] at h ⊢
   by_cases p1 : c.k = 1
   ·rw [if_pos p1] at h ⊢
    simp only [decide_eq_true_eq] at h
    exact ⟨h,by omega⟩
   ·rw [if_neg p1] at h ⊢
    by_cases p2 : c.k = 2
    ·rw [if_pos p2] at h ⊢
     simp only [Bool.and_eq_true,Bool.or_eq_true,decide_eq_true_eq] at h
     exact ⟨⟨h.2,h.1⟩,by omega⟩
    ·rw [if_neg p2] at h ⊢
     by_cases p3 : c.k = 3
     ·rw [if_pos p3] at h ⊢
      simp only [Bool.and_eq_true,decide_eq_true_eq] at h
      exact h
     ·rw [if_neg p3] at h
      cases h
 exact ⟨(cellE_ok (by omega)).1 hz.1,hz.2⟩
theorem fit_E {col : ColD} {v : CellD} (h : fitC col v = true) : cellE v = 0 ∧ v.s.size ≤ 256 ∧ (v.k = col.kind ∨ v.k = 0 ∧ col.null = true):=by
 unfold fitC at h
 simp only [Bool.and_eq_true,Bool.or_eq_true,decide_eq_true_eq] at h
 obtain ⟨h1,h2⟩:=cellOk_E h.1
 exact ⟨h1,h2,h.2⟩
theorem colsF_kind : ∀ {pre l : List ColD},colsF pre l = true→∀ c ∈ l,1 ≤ c.kind ∧ c.kind ≤ 3
 | _,[],_,c,h=>by cases h
 | pre,a :: l,h,c,hc=>by
  unfold colsF at h
  simp only [Bool.and_eq_true,decide_eq_true_eq] at h
  rcases List.mem_cons.1 hc with rfl | hc
  ·exact h.2.1
  ·exact colsF_kind h.2.2.2 c hc
theorem cols_kind {cols : List ColD} (h : colsE cols = 0) {c : Nat} {col : ColD} (hc : cols[c]? = some col) : 1 ≤ col.kind ∧ col.kind ≤ 3:=by
 have h2:=(colsE_zero cols).1 h
 unfold colsOk at h2
 simp only [Bool.and_eq_true,decide_eq_true_eq] at h2
 exact colsF_kind h2.2.2 col (List.mem_of_getElem? hc)
theorem cols_len {cols : List ColD} (h : colsE cols = 0) : 1 ≤ cols.length ∧ cols.length ≤ 16:=by
 have h2:=(colsE_zero cols).1 h
 unfold colsOk at h2
 simp only [Bool.and_eq_true,decide_eq_true_eq] at h2
 exact ⟨h2.1,h2.2.1⟩
theorem tot_map : ∀ (l : List CellD),(∀ c ∈ l,c.s.size ≤ 256)→tot l ≤ 256 * l.length
 | [],_=>by simp [tot]
 | c :: l,h=>by
  have:=tot_map l fun x hx=>h x (List.mem_cons_of_mem _ hx)
  have:=h c (List.mem_cons_self ..)
  rw [tot_cons,List.length_cons]
  omega
/-- A column of rows that may be put. -/
theorem col_ok {cols : List ColD} {rows : List (List CellD)} (h : putOk cols rows) {c : Nat} {col : ColD} (hc : cols[c]? = some col) :
  kindAt cols c = col.kind ∧ segE col.kind (colL rows c) = 0 ∧ tot (colL rows c) ≤ 16384 ∧ (col.null = false→∀ x ∈ colL rows c,x.k ≠ 0):=by
 obtain ⟨h1,h2,h3⟩:=h
 have hall : ∀ x ∈ colL rows c,cellE x = 0 ∧ x.s.size ≤ 256 ∧ (x.k = col.kind ∨ x.k = 0 ∧ col.null = true):=fun x hx=>by
  obtain ⟨r,hr,rfl⟩:=List.mem_map.1 hx
  have ro:=(rowE_zero cols r).1 (h3 r hr)
  unfold rowOk at ro
  simp only [Bool.and_eq_true,decide_eq_true_eq] at ro
  obtain ⟨v,hv,hf⟩:=fits_at ro.2.2 hc
  rw [hv]
  exact fit_E hf
 have hk:=cols_kind h1 hc
 refine ⟨by unfold kindAt; rw [hc]; rfl,segE_zero.2 ⟨hk,by rw [colL_len]; omega,fun x hx=>⟨(hall x hx).1,(hall x hx).2.2.imp id (·.1)⟩⟩,?_,fun hn x hx z=>?_⟩
 ·have:=tot_map (colL rows c) fun x hx=>(hall x hx).2.1
  rw [colL_len] at this
  omega
 ·rcases (hall x hx).2.2 with q | q
  ·rw [z] at q; omega
  ·rw [hn] at q; cases q.2
theorem seg_len64 {kind : Int} {l : List CellD} (h : segE kind l = 0) (hl : l.length ≤ 64) (ht : tot l ≤ 16384) : (segB kind l).length ≤ 51000:=by
 have:=segB_bound h (by omega) (by omega)
 omega
theorem putOk_sub {cols : List ColD} {rows sub : List (List CellD)} (h : putOk cols rows) (hs : ∀ r ∈ sub,r ∈ rows) (h1 : 1 ≤ sub.length) (h2 : sub.length ≤ rows.length) : putOk cols sub :=
 ⟨h.1,⟨h1,by have:=h.2.1.2; omega⟩,fun r hr=>h.2.2 r (hs r hr)⟩
theorem nul_zero {l : List CellD} (hl : l.length ≤ 64) : (ofZ l).cnt = l.length ∧ (ofZ l).nul = (l.length : Int) - (vals l).length ∧ ((∀ x ∈ l,x.k ≠ 0)→(ofZ l).nul = 0):=by
 rw [ofZ_rep l (by omega)]
 refine ⟨rfl,rfl,fun h=>?_⟩
 show (l.length : Int) - (vals l).length = 0
 rw [vals_self h]
 omega
end Go.Proofs.YtlbmlncdjkdoaaaGreat.Sh
/- Rows of one's own: copies of rows. -/
set_option linter.unusedVariables false
set_option linter.unusedSimpArgs false
set_option maxRecDepth 100000
namespace Go.Proofs.Ev
open Go Go.RowKit
section
variable {P : Program} {n0 : Nat} {h0 h : AH} {L : List (Nat × AO)} {O O' : List OS}
theorem apart_iff {O : List OS} : (∀ (i j : Nat) (x y : OS) (b : Nat),O[i]? = some x→O[j]? = some y→blkOf x.1 = some b→blkOf y.1 = some b→i = j) ↔ O.Pairwise fun x y=>∀ b,blkOf x.1 = some b→¬ blkOf y.1 = some b:=by
 rw [List.pairwise_iff_getElem]
 constructor
 ·intro H i j hi hj hij b h1 h2
  have:=H i j _ _ b (List.getElem?_eq_getElem hi) (List.getElem?_eq_getElem hj) h1 h2
  omega
 ·intro H i j x y b hi hj h1 h2
  obtain ⟨l1,rfl⟩:=List.getElem?_eq_some_iff.1 hi
  obtain ⟨l2,rfl⟩:=List.getElem?_eq_some_iff.1 hj
  rcases Nat.lt_trichotomy i j with q | q | q
  ·exact (H i j l1 l2 q b h1 h2).elim
  ·exact q
  ·exact (H j i l2 l1 q b h2 h1).elim
/-- One's own slices in another order. -/
theorem Stt.permO (S : Stt P n0 h0 h L O) (hp : O.Perm O') : Stt P n0 h0 h L O' :=
 ⟨S.sta,fun o ho=>S.own o (hp.mem_iff.2 ho),apart_iff.2 ((hp.pairwise_iff fun q b h1 h2=>q b h2 h1).1 (apart_iff.1 S.apart))⟩
theorem Stt.subO (S : Stt P n0 h0 h L O) (hs : O'.Sublist O) : Stt P n0 h0 h L O' :=
 ⟨S.sta,fun o ho=>S.own o (hs.subset ho),apart_iff.2 ((apart_iff.1 S.apart).sublist hs)⟩
end
end Go.Proofs.Ev
namespace Go.Proofs.YtlbmlncdjkdoaaaGreat.Sh
open Go Go.RowKit Go.Proofs.Ev
open Tryz (prog)
/-- Rows with the slices that hold them. -/
abbrev RS:=List (Value × List CellD)
def outs (rs : RS) : List (List Value):=rs.map fun p=>[p.1]
def owns (rs : RS) : List OS:=rs.map fun p=>(p.1,3,p.2.map crow)
def rowsOf (rs : RS) : List (List CellD):=rs.map (·.2)
theorem outs_len (rs : RS) : (outs rs).length = rs.length:=List.length_map ..
theorem rowsOf_len (rs : RS) : (rowsOf rs).length = rs.length:=List.length_map ..
theorem all2_map {α γ : Type} {R : α→γ→Prop} : ∀ {l : List (α × γ)},(∀ p ∈ l,R p.1 p.2)→All2 R (l.map (·.1)) (l.map (·.2))
 | [],_=>trivial
 | p :: l,h=>⟨h p (List.mem_cons_self ..),all2_map fun q hq=>h q (List.mem_cons_of_mem _ hq)⟩
section
variable {n0 : Nat} {h0 h : AH} {L : List (Nat × AO)} {O : List OS} {v : Value} {rs : RS}
theorem ownRow (S : Stt prog n0 h0 h L O) {w : Value} {r : List CellD} (hm : (w,3,r.map crow) ∈ O) : Cells h w r:=by
 obtain ⟨i,hi⟩:=List.mem_iff_getElem?.1 hm
 exact (S.slV i hi).z
theorem rows_out (S : Stt prog n0 h0 h L (owns rs ++ O)) (hv : SlV prog h v 1 (outs rs)) : Rows h v (rowsOf rs):=by
 refine ⟨rs.map (·.1),?_,all2_map fun p hp=>ownRow S (List.mem_append.2 (.inl (List.mem_map.2 ⟨p,hp,rfl⟩)))⟩
 rw [List.map_map]
 exact hv.z
end
theorem appC : AppT prog #[34,34] 39 3 32:=⟨by kernel_rfl,⟨39,by kernel_rfl⟩,by kernel_rfl,by omega,by kernel_rfl,⟨_,ze39,rfl,rfl⟩⟩
end Go.Proofs.YtlbmlncdjkdoaaaGreat.Sh
/- Groups: 'turned', a table turned about. -/
set_option linter.unusedVariables false
set_option linter.unusedSimpArgs false
set_option maxRecDepth 100000
namespace Go.Proofs.YtlbmlncdjkdoaaaGreat.Sh
open Go Go.RowKit Go.Proofs.Ev
open Tryz (prog)
def bzG2:=PLift.up (ai @ld3 (ai @ld34 (ai @ld39 (ai @ld23 (ai @aggC (@Nat.add_zero))))))
theorem idxR {n0 : Nat} {h0 h : AH} {L : List (Nat × AO)} {O : List OS} (S : Stt prog n0 h0 h L O) (i : Nat) {v w : Value} {A B : List (List Value)} (hi : O[i]? = some (v,1,A ++ [w] :: B)) :
  ∃ b,blkOf v = some b ∧ pIndexAddr prog 23 v (.int .i64 (A.length : Nat)) = some (.pointer (some ⟨b,A.length * 1,none⟩)) ∧ h.cell b (A.length * 1) = some w:=by
 obtain ⟨b,hb,hx⟩:=S.idx i hi (t:=23) (kd:=.i64) (j:=A.length) (by simp) u23 sz34
 obtain ⟨b2,o2,hx2,hr⟩:=(S.slV i hi).at_ (t:=23) (k:=.i64) (i:=A.length) (r:=[w]) (by simp) u23 sz34
 rw [hx] at hx2
 cases hx2
 exact ⟨b,hb,hx,by simpa using Ev.cell_of_row (j:=0) hr (by omega)⟩
theorem set_app {α : Type} (A B : List α) (x y : α) : (A ++ x :: B).set A.length y = A ++ y :: B:=by
 rw [List.set_append,if_neg (by omega),Nat.sub_self,List.set_cons_zero]
theorem f44_11 {β : Type} {inv : Inv} {Q : β→Prop} {n0 : Nat} {h0 h : AH} {L : List (Nat × AO)} {O : List OS} {A B : List (List Value)} {v7 w y0 y5 y15 y16 y19 y20 y21 : Value} {b11 : Nat} {c : CellD} {l : List CellD} (hl : l.length ≤ 2 ^ 20)
  (S : Stt prog n0 h0 h (Cr b11 c :: L) ((v7,1,A ++ [w] :: B) :: (w,3,l.map crow) :: O)) {K : AH→Option β}
  (hk : ∀ w' h',Stt prog n0 h0 h' (Cr b11 c :: L) ((v7,1,A ++ [w'] :: B) :: (w',3,(l ++ [c]).map crow) :: O)→Tl (K h') Q) :
  Tl (G44_11 inv y0 y5 v7 (.int .i64 (A.length : Nat)) (.pointer (some ⟨b11,0,none⟩)) y15 y16 y19 y20 y21 h K) Q:=by
 obtain ⟨b,hb,hx,hc⟩:=idxR S 0 rfl
 obtain ⟨r1,_⟩:=c_at S 0 rfl
 have S1:=S.alloc (.cells (crow c) 39 true)
 obtain ⟨b',_,hx',hc'⟩:=idxR S1 0 rfl
 have eb : b' = b:=by rw [hx] at hx'; cases hx'; rfl
 rw [eb] at hc'
 obtain ⟨w',h2,e2,S2,_,_⟩:=S1.append 1 rfl appC (slV_one (h:=h) (e:=39) (n:=3) (r:=crow c) rfl) (by simp; omega) rfl
 have S2 : Stt prog n0 h0 h2 ((h.n,.cells (crow c) 39 true) :: Cr b11 c :: L) ((v7,1,A ++ [w] :: B) :: (w',3,l.map crow ++ [crow c]) :: O):=S2
 obtain ⟨a,m,ew,_⟩:=(S2.slV 1 rfl).form
 simp only [G44_11]
 with_reducible repeat (first | (apply qzV; simp (disch:=omega) only [zA,bzG2.1,hx,hc,r1,bsCs,e2] <;> rfl) | apply qzT | apply qzF | (apply qzB; simp (disch:=omega) only [zA,bzG2.1,hx,hc,r1,bsCs,e2] <;> rfl))
 refine Tl.setAt S2 0 rfl hb (by simp) (by rw [ew]; rfl) sz34 (by rw [ew]; rfl) fun h3 S3=>?_
 have sw:=slV_same (S.slV 1 rfl)
 refine Tl.chk ?_ ?_
 ·simp only [ld34,hc,hc',sameO_some,sw,Bool.and_self,Bool.not_true,Bool.or_true,Bool.false_or,Bool.true_and,Bool.and_true]
 refine hk w' _ ?_
 have S3:=S3.drop
 have e3 : (A ++ [w] :: B).set A.length w'.cells.toList = A ++ [w'] :: B:=by rw [set_app,ew]; rfl
 have e4 : (l ++ [c]).map crow = l.map crow ++ [crow c]:=by simp
 rw [e3] at S3
 rw [e4]
 exact S3
theorem f44_in {β : Type} {inv : Inv} {k : Nat} {Q : β→Prop} {h0 : AH} {v v7 x15 x16 : Value} {rows : List (List CellD)} {b5 : Nat} {A B : List (List Value)} {O : List OS} (R : Rows h0 v rows) (hl : rows.length ≤ 64)
  {ke2 : Value→Value→Value→Value→Value→Value→Value→Value→Value→Value→AH→Option β} (n : Nat) :
  ∀ {i j : Nat} {h : AH} {w : Value},i + n = rows.length→n < j→Stt prog h0.n h0 h [Cr b5 c0] ((v7,1,A ++ [w] :: B) :: (w,3,(colL (rows.take i) A.length).map crow) :: O) →
   (∀ h' w' y1 y2 y3 y4,Stt prog h0.n h0 h' [Cr b5 c0] ((v7,1,A ++ [w'] :: B) :: (w',3,(colL rows A.length).map crow) :: O)→Tl (ke2 v (.pointer (some ⟨b5,0,none⟩)) v7 (.int .i64 (A.length : Nat)) x15 x16 y1 y2 y3 y4 h') Q) →
   Tl (F44_lrrllrrllrlrr inv k j v (.pointer (some ⟨b5,0,none⟩)) v7 (.int .i64 (A.length : Nat)) x15 x16 v (.int .i64 rows.length) (.int .i64 i) h ke2) Q:=by
 induction n with
 | zero =>
  intro i j h w hi hj S hk
  obtain ⟨j,rfl⟩ : ∃ q,j = q + 1:=⟨j - 1,by omega⟩
  simp only [F44_lrrllrrllrlrr]
  with_reducible repeat (first | (apply qzV; simp (disch:=omega) only [zA,bzG2.1] <;> rfl) | apply qzT | apply qzF | (apply qzB; simp (disch:=omega) only [zA,bzG2.1] <;> rfl))
  rw [List.take_of_length_le (by omega)] at S
  exact hk _ w _ _ _ _ S
 | succ n ih =>
  intro i j h w hi hj S hk
  obtain ⟨j,rfl⟩ : ∃ q,j = q + 1:=⟨j - 1,by omega⟩
  obtain ⟨x,ex⟩ : ∃ x,rows[i]? = some x:=⟨_,List.getElem?_eq_getElem (by omega)⟩
  obtain ⟨b,o,wr,hp,hc0,C⟩:=R.at_ ex
  have hc:=S.grow.cell hc0
  have e : (i : Int) + 1 = ((i + 1 : Nat) : Int):=by omega
  obtain ⟨r5,_⟩:=c_at S 0 rfl
  have hlen : ∀ h',pLen prog #[34] wr h' = some (.int .i64 x.length):=fun h'=>C.len
  have ecol : colL (rows.take (i + 1)) A.length = colL (rows.take i) A.length ++ [(x[A.length]?).getD c0]:=by
   rw [List.take_add_one,ex,colL_app]; rfl
  simp only [F44_lrrllrrllrlrr]
  with_reducible repeat (first | (apply qzV; simp (disch:=omega) only [zA,bzG2.1,hp,hc,r5] <;> rfl) | apply qzT | apply qzF | (apply qzB; simp (disch:=omega) only [zA,bzG2.1,hp,hc,r5] <;> rfl))
  refine Tl.alloc' S ze39 rfl fun b11 h1 S1 _=>?_
  with_reducible repeat (first | (apply qzV; simp (disch:=omega) only [zA,bzG2.1] <;> rfl) | apply qzT | apply qzF | (apply qzB; simp (disch:=omega) only [zA,bzG2.1] <;> rfl))
  refine Tl.store' S1 0 rfl sz39 rfl rfl (of_decide_eq_true rfl) fun h2 S2 _=>?_
  have S2 : Stt prog h0.n h0 h2 [Cr b11 c0,Cr b5 c0] ((v7,1,A ++ [w] :: B) :: (w,3,(colL (rows.take i) A.length).map crow) :: O):=S2
  have fin : ∀ h3 y10 y29,Stt prog h0.n h0 h3 [Cr b11 ((x[A.length]?).getD c0),Cr b5 c0] ((v7,1,A ++ [w] :: B) :: (w,3,(colL (rows.take i) A.length).map crow) :: O) →
    Tl ((fun (y0 y5 y7 y8 y10 y11 y15 y16 y19 y20 y21 y29 : Value) (h : AH) =>
     G44_11 inv y0 y5 y7 y8 y11 y15 y16 y19 y20 y21 h fun h_1 =>
     Ev.bnd (pBin prog .add 3 (.tmp 21) (.const (.int .i64 1)) y21 (.int .i64 1)) fun x44 =>
     F44_lrrllrrllrlrr inv k j y0 y5 y7 y8 y15 y16 y19 y20 x44 h_1 ke2) v (.pointer (some ⟨b5,0,none⟩)) v7 (.int .i64 (A.length : Nat)) y10 (.pointer (some ⟨b11,0,none⟩)) x15 x16 v (.int .i64 rows.length) (.int .i64 i) y29 h3) Q:=by
   intro h3 y10 y29 S3
   refine f44_11 (by rw [colL_len,List.length_take]; omega) S3 fun w' h4 S4=>?_
   with_reducible repeat (first | (apply qzV; simp (disch:=omega) only [zA,bzG2.1] <;> rfl) | apply qzT | apply qzF | (apply qzB; simp (disch:=omega) only [zA,bzG2.1] <;> rfl))
   rw [e]
   refine ih (w:=w') (by omega) (by omega) ?_ hk
   rw [ecol]
   exact S4.drop
  simp only [F44_rlrrllrrllrrllrrllrlrr]
  by_cases q : A.length < x.length
  ·obtain ⟨y,ey⟩ : ∃ y,x[A.length]? = some y:=⟨_,List.getElem?_eq_getElem q⟩
   obtain ⟨b2,o2,hp2,hrow⟩:=(C.grow S2.grow).at_ ey
   with_reducible repeat (first | (apply qzV; simp (disch:=omega) only [zA,bzG2.1,hlen,hp2,hrow] <;> rfl) | apply qzT | apply qzF | (apply qzB; simp (disch:=omega) only [zA,bzG2.1,hlen,hp2,hrow] <;> rfl))
   refine Tl.store' S2 0 rfl sz39 rfl rfl (of_decide_eq_true rfl) fun h3 S3 _=>?_
   refine fin _ unk unk ?_
   rw [ey]
   exact S3
  ·with_reducible repeat (first | (apply qzV; simp (disch:=omega) only [zA,bzG2.1,hlen] <;> rfl) | apply qzT | apply qzF | (apply qzB; simp (disch:=omega) only [zA,bzG2.1,hlen] <;> rfl))
   refine fin _ unk unk ?_
   rw [List.getElem?_eq_none (by omega)]
   exact S2
/-- The columns, one behind the other. -/
theorem f44_out {β : Type} {inv : Inv} {k : Nat} {Q : β→Prop} {h0 : AH} {v v7 : Value} {rows : List (List CellD)} {b5 N : Nat} (R : Rows h0 v rows) (hl : rows.length ≤ 64) (hN : N ≤ 64) (hk' : rows.length < k)
  {ke0 : Value→Value→Value→Value→Value→Value→AH→Option β} (n : Nat) :
  ∀ {j : Nat} {h : AH} {rs : RS},rs.length + n = N→n < j→rowsOf rs = (List.range rs.length).map (colL rows)→Stt prog h0.n h0 h [Cr b5 c0] ((v7,1,outs rs ++ List.replicate n [.slice none 0 0]) :: owns rs) →
   (∀ h' rs y1 y2,rowsOf rs = (List.range N).map (colL rows)→Stt prog h0.n h0 h' [] ((v7,1,outs rs) :: owns rs)→Tl (ke0 v (.pointer (some ⟨b5,0,none⟩)) v7 (.int .i64 N) y1 y2 h') Q) →
   Tl (F44_lrlrr inv k j v (.pointer (some ⟨b5,0,none⟩)) v7 (.int .i64 N) (.int .i64 (rs.length : Nat)) h ke0) Q:=by
 induction n with
 | zero =>
  intro j h rs hi hj hr S hk
  obtain ⟨j,rfl⟩ : ∃ q,j = q + 1:=⟨j - 1,by omega⟩
  simp only [F44_lrlrr]
  with_reducible repeat (first | (apply qzV; simp (disch:=omega) only [zA,bzG2.1] <;> rfl) | apply qzT | apply qzF | (apply qzB; simp (disch:=omega) only [zA,bzG2.1] <;> rfl))
  rw [List.replicate_zero,List.append_nil] at S
  exact hk _ rs _ _ (by rw [hr,show rs.length = N by omega]) S.drop
 | succ n ih =>
  intro j h rs hi hj hr S hk
  obtain ⟨j,rfl⟩ : ∃ q,j = q + 1:=⟨j - 1,by omega⟩
  have hlen : ∀ h',pLen prog #[23] v h' = some (.int .i64 rows.length):=fun h'=>R.len
  have e : (rs.length : Int) + 1 = ((rs.length + 1 : Nat) : Int):=by omega
  have eo : (outs rs).length = rs.length:=outs_len rs
  simp only [F44_lrlrr]
  with_reducible repeat (first | (apply qzV; simp (disch:=omega) only [zA,bzG2.1,hlen] <;> rfl) | apply qzT | apply qzF | (apply qzB; simp (disch:=omega) only [zA,bzG2.1,hlen] <;> rfl))
  have S1 : Stt prog h0.n h0 h [Cr b5 c0] ((v7,1,outs rs ++ [.slice none 0 0] :: List.replicate n [.slice none 0 0]) :: (.slice none 0 0,3,(colL (rows.take 0) (outs rs).length).map crow) :: owns rs):=by
   rw [List.replicate_succ] at S
   exact (S.nil 3).permO (.swap _ _ _)
  rw [← eo]
  refine f44_in R hl rows.length (i:=0) (by omega) (by omega) S1 fun h' w' y1 y2 y3 y4 S2=>?_
  rw [eo] at S2 ⊢
  with_reducible repeat (first | (apply qzV; simp (disch:=omega) only [zA,bzG2.1] <;> rfl) | apply qzT | apply qzF | (apply qzB; simp (disch:=omega) only [zA,bzG2.1] <;> rfl))
  rw [e]
  have S3:=S2.permO (O':=(v7,1,outs (rs ++ [(w',colL rows rs.length)]) ++ List.replicate n [.slice none 0 0]) :: owns (rs ++ [(w',colL rows rs.length)])) (by
   unfold outs owns
   rw [List.map_append,List.map_append,List.append_assoc]
   exact .cons _ (List.perm_append_singleton _ _).symm)
  have el : (rs ++ [(w',colL rows rs.length)]).length = rs.length + 1:=by simp
  rw [← el]
  refine ih (j:=j) (rs:=rs ++ [(w',colL rows rs.length)]) (by rw [el]; omega) (by omega) ?_ S3 hk
  rw [el,List.range_succ,List.map_append,← hr]
  unfold rowsOf
  rw [List.map_append]
  rfl
theorem f44c {k : Nat} {h : AH} {v : Value} {rows : List (List CellD)} {N : Nat} (R : Rows h v rows) (hl : rows.length ≤ 64) (hN : N ≤ 64) (hk : 64 < k) :
  Tl (eInv env (k + 1) (.func 44) #[] #[v,.int .i64 N,c0.v] h) fun r=>∃ rs,rowsOf rs = (List.range N).map (colL rows) ∧ Stt prog h.n h r.2 [] ((r.1,1,outs rs) :: owns rs):=by
 rw [F44_call]
 unfold F44
 refine Tl.box' (Stt.init h) rfl (by rw [sz39]; rfl) fun b5 h1 S1 _=>?_
 refine Tl.make' S1 app23 ze34 (by omega) (by omega) fun v7 h2 S2 _=>?_
 have S2 : Stt prog h.n h h2 [Cr b5 c0] [(v7,1,List.replicate N [.slice none 0 0])]:=S2
 have hlen : ∀ h',pLen prog #[23] v7 h' = some (.int .i64 N):=fun h'=>by
  have:=(S2.slV 0 rfl).len u23 (h':=h')
  rwa [List.length_replicate] at this
 with_reducible repeat (first | (apply qzV; simp (disch:=omega) only [zA,bzG2.1,hlen] <;> rfl) | apply qzT | apply qzF | (apply qzB; simp (disch:=omega) only [zA,bzG2.1,hlen] <;> rfl))
 exact f44_out R hl hN (by omega) N (rs:=[]) (by simp) (by omega) (by simp [rowsOf]) S2 fun h' rs y1 y2 hr S=>⟨_,rfl,rs,hr,S⟩
end Go.Proofs.YtlbmlncdjkdoaaaGreat.Sh
