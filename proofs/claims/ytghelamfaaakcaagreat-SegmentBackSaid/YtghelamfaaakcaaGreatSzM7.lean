/- What lies ahead of the law, put together. -/
import Derived.Test.YtghelamfaaakcaaGreatSzM6
import Derived.Test.YtghelamfaaakcaaGreatSzM4
import Derived.Test.YtghelamfaaakcaaGreatSzM1
/- What stands ahead of a segment's cells: 'open', the whole. -/
set_option linter.unusedVariables false
set_option linter.unusedSimpArgs false
set_option maxRecDepth 100000
namespace Go.Proofs.YtghelamfaaakcaaGreat.Sh
open Go Go.RowKit Go.Proofs.Ev Go.Lib
open Tryz (prog)
def bzS12:=PLift.up (ai @ld3 (ai @ld2 (ai @ld9 (ai @ld4 (ai @ld31 (ai @ld38 (ai @ld66 (ai @ld33 (ai @ld32 (ai @fa31_0 (ai @fa31_1 (ai @fa31_2 (ai @fa38_0 (ai @fa38_1 (ai @fa38_2 (ai @fa38_3 (ai @fa66_0 (ai @fa66_1 (ai @fa66_2 (ai @fa66_3 (ai (fun a h=>conv_int (a:=a) (h:=h) u5 u3) (ai @aggC (ai @aggZ (ai @ex2_0 (ai @ex2_1 (ai @ex3_0 (ai @ex3_1 (ai @ex3_2 (@Nat.add_zero)))))))))))))))))))))))))))))
theorem endB_len {kind : Int} {r r2 : List Nat} {a b : CellD} (h : endB kind r = some (a,b,r2)) : r2.length ≤ r.length:=by
 have key : ∀ {α : Type} (rd : List Nat→Option (α × List Nat)) (mk : α→CellD),(∀ r r1 x,rd r = some (x,r1)→r1.length ≤ r.length)→endG rd mk r = some (a,b,r2)→r2.length ≤ r.length:=by
  intro α rd mk hr h
  unfold endG at h
  cases e1 : rd r with
  | none=>rw [e1] at h; cases h
  | some x =>
   obtain ⟨x,r1⟩:=x
   rw [e1] at h
   simp only at h
   cases e2 : rd r1 with
   | none=>rw [e2] at h; cases h
   | some y =>
    obtain ⟨y,r3⟩:=y
    rw [e2] at h
    simp only [Option.some.injEq,Prod.mk.injEq] at h
    obtain ⟨_,_,rfl⟩:=h
    have:=hr _ _ _ e1
    have:=hr _ _ _ e2
    omega
 unfold endB at h
 split at h
 ·unfold endN at h
  exact key rdN mkN (fun _ _ _ q=>(rdN_sub q).1) h
 ·split at h
  ·unfold endT at h
   exact key rdT mkT (fun _ _ _ q=>(rdT_sub q).1) h
  ·unfold endW at h
   exact key rdW mkW (fun _ _ _ q=>(rdW_sub q).1) h
section
variable {n0 : Nat} {h0 h : AH} {L : List (Nat × AO)} {O : List OS}
theorem RV.swap1 {x x' y : Nat × AO} {b : Nat} {cs : List Value} {e : TypeId} {rv : Value} {rest : List Nat} (R : RV (x :: (b,.cells cs e true) :: L) 0 rv rest) (hs : szT prog e ≠ some 1) : RV (x' :: y :: L) 0 rv rest:=by
 rcases R with R | ⟨j,bb,o,cs',e',h1,h2,h3,h4⟩
 ·exact .inl R
 ·rcases j with _ | _ | j
  ·exact absurd rfl h1
  ·simp only [List.getElem?_cons_zero,List.getElem?_cons_succ,Option.some.injEq,Prod.mk.injEq,AO.cells.injEq] at h2
   obtain ⟨_,_,rfl,_⟩:=h2
   exact absurd h3 hs
  ·exact .inr ⟨j + 2,bb,o,cs',e',by omega,by simpa using h2,h3,h4⟩
theorem dropAll : ∀ {L : List (Nat × AO)},Stt prog n0 h0 h L O→Stt prog n0 h0 h [] O
 | [],S=>S
 | _ :: _,S=>dropAll S.drop
/-- The rest. -/
theorem open_fin {k : Nat} {bs : List Nat} {b br : Nat} {kind : Int} {z : ZoneD} {l : List Bool} {rest : List Nat} {rv nv x y : Value} {r1 r2 : List (List Value)} (S : Stt prog h0.n h0 h (Rb br rv :: Op b kind nv z (.slice none 0 0) :: L) [(x,1,r1),(nv,1,brows l),(y,1,r2)])
  (R : RV (Rb br rv :: Op b kind nv z (.slice none 0 0) :: L) 0 rv rest) (hl : rest.length ≤ 2 ^ 30) (ho : openB bs = some (kind,l,z,rest)) :
  Tl (Ev.bnd (eInv env (k + 10) (.func 61) #[] #[ptr br] h) fun x78=>Ev.bnd (eInv env (k + 10) (.func 60) #[] #[ptr br,x78.1] x78.2) fun x79=>Ev.bnd (pExtract x79.1 0) fun x80=>Ev.bnd (pExtract x79.1 1) fun x81 =>
   Ev.bnd (pFieldAddr prog 66 (.pointer (some ⟨b,0,none⟩)) 3) fun x82=>Ev.bnd (kSt (pStore prog 33 x82 x80 x79.2)) fun u_8=>Ev.bnd (pLoad prog 66 (.pointer (some ⟨b,0,none⟩)) u_8.2) fun x83 =>
   Ev.bnd (kSt (pStore prog 66 (.pointer (some ⟨b,0,none⟩)) x83 u_8.2)) fun u_9=>Ev.bnd (pLoad prog 66 (.pointer (some ⟨b,0,none⟩)) u_9.2) fun q0=>some (Value.tuple #[q0,x81],u_9.2)) fun r=>OpenQ h0 bs r:=by
 have e1:=f61c (k:=k + 9) S (i:=0) rfl R
 with_reducible repeat (first | (apply qzV; simp (disch:=omega) only [zA,bzS12.1,e1] <;> rfl) | apply qzT | apply qzF | apply qzG | apply qzH | ((first | apply qzB | apply qzC | apply qzD); simp (disch:=omega) only [zA,bzS12.1,e1] <;> rfl))
 refine Tl.bind (f60c (k:=k + 7) S (i:=0) rfl R (n:=rest.length) (Nat.le_refl _) hl) ?_
 rintro ⟨r,h1⟩ ⟨v',rv',er,S1,R1⟩
 simp only at er S1
 subst er
 rw [List.take_length] at S1
 have S1 : Stt prog h0.n h0 h1 (Rb br rv' :: Op b kind nv z (.slice none 0 0) :: L) [(v',1,u8rows rest),(x,1,r1),(nv,1,brows l),(y,1,r2)]:=S1
 obtain ⟨a,c,eo,_⟩:=(S1.slV 0 rfl).form
 subst eo
 obtain ⟨a2,c2,eo2,_⟩:=(S1.slV 2 rfl).form
 subst eo2
 with_reducible repeat (first | (apply qzV; simp (disch:=omega) only [zA,bzS12.1] <;> rfl) | apply qzT | apply qzF | apply qzG | apply qzH | ((first | apply qzB | apply qzC | apply qzD); simp (disch:=omega) only [zA,bzS12.1] <;> rfl))
 refine Tl.store' S1 1 rfl sz33 rfl rfl (of_decide_eq_true rfl) fun h2 S2 _=>?_
 have S2 : Stt prog h0.n h0 h2 (Rb br rv' :: Op b kind (.slice a2 (brows l).length c2) z (.slice a (u8rows rest).length c) :: L) [(.slice a (u8rows rest).length c,1,u8rows rest),(x,1,r1),(.slice a2 (brows l).length c2,1,brows l),(y,1,r2)]:=S2
 have q2:=(o_at S2 1 rfl).all
 with_reducible repeat (first | (apply qzV; simp (disch:=omega) only [zA,bzS12.1,q2] <;> rfl) | apply qzT | apply qzF | apply qzG | apply qzH | ((first | apply qzB | apply qzC | apply qzD); simp (disch:=omega) only [zA,bzS12.1,q2] <;> rfl))
 refine Tl.store' S2 1 rfl sz66 rfl rfl (of_decide_eq_true rfl) fun h3 S3 _=>?_
 have S3 : Stt prog h0.n h0 h3 (Rb br rv' :: Op b kind (.slice a2 (brows l).length c2) z (.slice a (u8rows rest).length c) :: L) [(.slice a (u8rows rest).length c,1,u8rows rest),(x,1,r1),(.slice a2 (brows l).length c2,1,brows l),(y,1,r2)]:=S3
 have q3:=(o_at S3 1 rfl).all
 with_reducible repeat (first | (apply qzV; simp (disch:=omega) only [zA,bzS12.1,q3] <;> rfl) | apply qzT | apply qzF | apply qzG | apply qzH | ((first | apply qzB | apply qzC | apply qzD); simp (disch:=omega) only [zA,bzS12.1,q3] <;> rfl))
 exact ⟨_,rfl,.inl ⟨kind,l,z,rest,_,_,ho,rfl,(dropAll S3).keepO (.cons_cons _ (.cons _ (.cons_cons _ (List.nil_sublist _))))⟩⟩
end
theorem f36c {k : Nat} {h : AH} {bs : List Nat} (hb : ∀ x ∈ bs,x < 256) (hl : bs.length ≤ 2 ^ 19) (hk : 7000 + bs.length < k) :
  Tl (eInv env (k + 2000) (.func 36) #[] #[.string (strB bs)] h) fun r=>OpenQ h bs r:=by
 rw [F36_call]
 unfold F36
 refine Tl.alloc' (Stt.init h) ze66 rfl fun b h1 S1 _=>?_
 have S1 : Stt prog h.n h h1 [Op b 0 (.slice none 0 0) z0 (.slice none 0 0)] []:=S1
 have es : ∀ x y,pBin prog .eql 9 x y (.string (strB bs)) (.string { data:=#[] }) = some (.bool (decide (bs.length = 0))):=fun x y=>by rw [str0,strB_size]
 cases bs with
 | nil =>
  have e0 : decide (([] : List Nat).length = 0) = true:=rfl
  with_reducible repeat (first | (apply qzV; simp (disch:=omega) only [zA,bzS12.1,es,e0] <;> rfl) | apply qzT | apply qzF | apply qzG | ((first | apply qzB | apply qzC); simp (disch:=omega) only [zA,bzS12.1,es,e0] <;> rfl))
  exact open_bad S1 rfl
 | cons a r =>
  have ha : a < 256:=hb a (List.mem_cons_self ..)
  have hbr : ∀ x ∈ r,x < 256:=fun x hx=>hb x (List.mem_cons_of_mem _ hx)
  rw [List.length_cons] at hl hk
  have e0 : decide ((a :: r).length = 0) = false:=by simp
  have i0:=idx0 (r:=r) ha
  with_reducible repeat (first | (apply qzV; simp (disch:=omega) only [zA,bzS12.1,es,e0,i0] <;> rfl) | apply qzT | apply qzF | apply qzG | ((first | apply qzB | apply qzC); simp (disch:=omega) only [zA,bzS12.1,es,e0,i0] <;> rfl))
  refine Tl.store' S1 0 rfl sz3 rfl rfl (of_decide_eq_true rfl) fun h2 S2 _=>?_
  have S2 : Stt prog h.n h h2 [Op b (a : Int) (.slice none 0 0) z0 (.slice none 0 0)] []:=S2
  have k2:=(o_at S2 0 rfl).kind
  with_reducible repeat (first | (apply qzV; simp (disch:=omega) only [zA,bzS12.1,k2] <;> rfl) | apply qzT | apply qzF | apply qzG | ((first | apply qzB | apply qzC); simp (disch:=omega) only [zA,bzS12.1,k2] <;> rfl))
  with_reducible refine Tl.call' S2 (f28c (k:=k + 1997) (a : Int) h2) fun h3 S3 _=>?_
  by_cases p : ¬ (1 ≤ (a : Int) ∧ (a : Int) ≤ 3)
  ·rw [codV_none p]
   with_reducible repeat (first | (apply qzV; simp (disch:=omega) only [zA,bzS12.1,codNone] <;> rfl) | apply qzT | apply qzF | apply qzG | ((first | apply qzB | apply qzC); simp (disch:=omega) only [zA,bzS12.1,codNone] <;> rfl))
   exact open_bad S3 (by simp only [openB]; rw [if_pos p])
  have p2 : 1 ≤ (a : Int) ∧ (a : Int) ≤ 3:=Classical.not_not.1 p
  have cs:=fun x=>codSome p2 (a:=x)
  have c1 : pSlice prog 9 (.string (strB (a :: r))) (some (.int .i64 1)) none none h3 = some (.string (strB r)):=cut_lo (l:=a :: r) (a:=1) (by simp) h3
  with_reducible repeat (first | (apply qzV; simp (disch:=omega) only [zA,bzS12.1,cs,c1] <;> rfl) | apply qzT | apply qzF | apply qzG | ((first | apply qzB | apply qzC); simp (disch:=omega) only [zA,bzS12.1,cs,c1] <;> rfl))
  refine Tl.toBytes S3 hbr fun bv1 h4 S4 g4=>?_
  refine Tl.bind (f56c (k:=k + 999) (S4.sl1 (f:=u8v) 0 rfl) hbr (by omega) (by omega)) ?_
  rintro ⟨r5,h5⟩ (⟨l,n,lv,hg,hl4,er,g5,X⟩ | ⟨hg,er,g5⟩)
  ·simp only at er g5 X
   subst er
   have S5:=S4.gain g5 X
   obtain ⟨la,lc,eo,_⟩:=(X.slV).form
   subst eo
   with_reducible repeat (first | (apply qzV; simp (disch:=omega) only [zA,bzS12.1] <;> rfl) | apply qzT | apply qzF | apply qzG | ((first | apply qzB | apply qzC); simp (disch:=omega) only [zA,bzS12.1] <;> rfl))
   refine Tl.store' S5 0 rfl sz32 rfl rfl (of_decide_eq_true rfl) fun h6 S6 _=>?_
   have S6 : Stt prog h.n h h6 [Op b (a : Int) (.slice la (brows l).length lc) z0 (.slice none 0 0)] [(.slice la (brows l).length lc,1,brows l),(bv1,1,u8rows r)]:=S6
   have B6 : Bools h6 (.slice la (brows l).length lc) l:=S6.sl1 (f:=bv) 0 rfl
   have ll : ∀ h',pLen prog #[32] (.slice la (brows l).length lc) h' = some (.int .i64 l.length):=fun h'=>Sl1.len B6 u32
   have cc:=f57c (k:=k + 1997) B6 (by omega) (by omega)
   with_reducible repeat (first | (apply qzV; simp (disch:=omega) only [zA,bzS12.1,ll,cc,bdZd] <;> rfl) | apply qzT | apply qzF | apply qzG | ((first | apply qzB | apply qzC); simp (disch:=omega) only [zA,bzS12.1,ll,cc,bdZd] <;> rfl))
   refine Tl.store' S6 0 rfl sz38 rfl rfl (of_decide_eq_true rfl) fun h7 S7 _=>?_
   have S7 : Stt prog h.n h h7 [Op b (a : Int) (.slice la (brows l).length lc) ⟨l.length,cnt l,c0,c0⟩ (.slice none 0 0)] [(.slice la (brows l).length lc,1,brows l),(bv1,1,u8rows r)]:=S7
   have hn:=getV_len hg
   have c2 : pSlice prog 9 (.string (strB (a :: r))) (some (.int .i64 (1 + (n : Int)))) none none h7 = some (.string (strB (r.drop n))):=by
    have:=cut_lo (l:=a :: r) (a:=1 + n) (by simp; omega) h7
    rw [show ((1 + n : Nat) : Int) = 1 + (n : Int) by omega,show (a :: r).drop (1 + n) = r.drop n by rw [Nat.add_comm,List.drop_succ_cons]] at this
    exact this
   with_reducible repeat (first | (apply qzV; simp (disch:=omega) only [zA,bzS12.1,c2] <;> rfl) | apply qzT | apply qzF | apply qzG | ((first | apply qzB | apply qzC); simp (disch:=omega) only [zA,bzS12.1,c2] <;> rfl))
   have hbd : ∀ x ∈ r.drop n,x < 256:=fun x hx=>hbr x (List.mem_of_mem_drop hx)
   have hld : (r.drop n).length ≤ r.length:=by rw [List.length_drop]; omega
   refine Tl.toBytes S7 hbd fun bv2 h8 S8 g8=>?_
   refine Tl.bind (f58c (k:=k + 1997) S8 (S8.sl1 (f:=u8v) 0 rfl) (by omega)) ?_
   rintro ⟨x9,h9⟩ ⟨br,rv,L',er,S9,R9,g9⟩
   simp only at er S9 g9
   subst er
   have S9 : Stt prog h.n h h9 (Rb br rv :: Op b (a : Int) (.slice la (brows l).length lc) ⟨l.length,cnt l,c0,c0⟩ (.slice none 0 0) :: L') [(bv2,1,u8rows (r.drop n)),(.slice la (brows l).length lc,1,brows l),(bv1,1,u8rows r)]:=S9
   have R9 : RV (Rb br rv :: Op b (a : Int) (.slice la (brows l).length lc) ⟨l.length,cnt l,c0,c0⟩ (.slice none 0 0) :: L') 0 rv (r.drop n):=R9
   obtain ⟨_,_,_,ct,nl⟩:=o_at S9 1 rfl
   have hcl:=cnt_le l
   with_reducible repeat (first | (apply qzV; simp (disch:=omega) only [zA,bzS12.1,ct,nl] <;> rfl) | apply qzT | apply qzF | apply qzG | ((first | apply qzB | apply qzC); simp (disch:=omega) only [zA,bzS12.1,ct,nl] <;> rfl))
   unfold F36_rlrrrrrrrrrr
   by_cases q : l.length = cnt l
   ·with_reducible repeat (first | (apply qzV; simp (disch:=omega) only [zA,bzS12.1] <;> rfl) | apply qzT | apply qzF | apply qzG | ((first | apply qzB | apply qzC); simp (disch:=omega) only [zA,bzS12.1] <;> rfl))
    exact open_fin (k:=k + 1989) S9 R9 (by omega) (by simp only [openB]; rw [if_neg p,hg]; simp only; rw [if_pos q])
   ·with_reducible repeat (first | (apply qzV; simp (disch:=omega) only [zA,bzS12.1] <;> rfl) | apply qzT | apply qzF | apply qzG | ((first | apply qzB | apply qzC); simp (disch:=omega) only [zA,bzS12.1] <;> rfl))
    refine Tl.bind (segends_c (k:=k + 1968) p2 S9 (i:=0) rfl R9 (by omega) hbd (by omega)) ?_
    rintro ⟨x10,h10⟩ ⟨c,d,e,rv2,er,S10,hq⟩
    simp only at er S10
    subst er
    have S10 : Stt prog h.n h h10 (Rb br rv2 :: Op b (a : Int) (.slice la (brows l).length lc) ⟨l.length,cnt l,c0,c0⟩ (.slice none 0 0) :: L') [(bv2,1,u8rows (r.drop n)),(.slice la (brows l).length lc,1,brows l),(bv1,1,u8rows r)]:=S10
    with_reducible repeat (first | (apply qzV; simp (disch:=omega) only [zA,bzS12.1] <;> rfl) | apply qzT | apply qzF | apply qzG | ((first | apply qzB | apply qzC); simp (disch:=omega) only [zA,bzS12.1] <;> rfl))
    refine Tl.store' S10 1 rfl sz31 rfl rfl (of_decide_eq_true rfl) fun h11 S11 _=>?_
    have S11 : Stt prog h.n h h11 (Rb br rv2 :: Op b (a : Int) (.slice la (brows l).length lc) ⟨l.length,cnt l,c,c0⟩ (.slice none 0 0) :: L') [(bv2,1,u8rows (r.drop n)),(.slice la (brows l).length lc,1,brows l),(bv1,1,u8rows r)]:=S11
    with_reducible repeat (first | (apply qzV; simp (disch:=omega) only [zA,bzS12.1] <;> rfl) | apply qzT | apply qzF | apply qzG | ((first | apply qzB | apply qzC); simp (disch:=omega) only [zA,bzS12.1] <;> rfl))
    refine Tl.store' S11 1 rfl sz31 rfl rfl (of_decide_eq_true rfl) fun h12 S12 _=>?_
    have S12 : Stt prog h.n h h12 (Rb br rv2 :: Op b (a : Int) (.slice la (brows l).length lc) ⟨l.length,cnt l,c,d⟩ (.slice none 0 0) :: L') [(bv2,1,u8rows (r.drop n)),(.slice la (brows l).length lc,1,brows l),(bv1,1,u8rows r)]:=S12
    obtain ⟨_,kd,zn,_,_⟩:=o_at S12 1 rfl
    rcases hq with ⟨r2,he,e0',R10⟩ | ⟨he,e0'⟩
    ·subst e0'
     with_reducible repeat (first | (apply qzV; simp (disch:=omega) only [zA,bzS12.1,kd,zn] <;> rfl) | apply qzT | apply qzF | apply qzG | ((first | apply qzB | apply qzC); simp (disch:=omega) only [zA,bzS12.1,kd,zn] <;> rfl))
     with_reducible refine Tl.call' S12 (f59c (k:=k + 1986) ⟨l.length,cnt l,c,d⟩ (a : Int) h12 p2.1 p2.2 (by simp only; omega) (by simp only; omega)) fun h13 S13 _=>?_
     by_cases qz : zoneE ⟨l.length,cnt l,c,d⟩ (a : Int) = 0
     ·with_reducible repeat (first | (apply qzV; simp (disch:=omega) only [zA,bzS12.1] <;> rfl) | apply qzT | apply qzF | apply qzG | ((first | apply qzB | apply qzC); simp (disch:=omega) only [zA,bzS12.1] <;> rfl))
      refine open_fin (k:=k + 1989) S13 (R10.swap1 (by rw [sz66]; decide)) ?_ ?_
      ·have h1 : r2.length ≤ (r.drop n).length:=endB_len he
       omega
      ·simp only [openB]
       rw [if_neg p,hg]
       simp only
       rw [if_neg q,he]
       simp only
       rw [if_pos qz]
     ·with_reducible repeat (first | (apply qzV; simp (disch:=omega) only [zA,bzS12.1] <;> rfl) | apply qzT | apply qzF | apply qzG | ((first | apply qzB | apply qzC); simp (disch:=omega) only [zA,bzS12.1] <;> rfl))
      refine open_bad S13.drop ?_
      simp only [openB]
      rw [if_neg p,hg]
      simp only
      rw [if_neg q,he]
      simp only
      rw [if_neg qz]
    ·with_reducible repeat (first | (apply qzV; simp (disch:=omega) only [zA,bzS12.1] <;> rfl) | apply qzT | apply qzF | apply qzG | ((first | apply qzB | apply qzC); simp (disch:=omega) only [zA,bzS12.1] <;> rfl))
     refine open_bad S12.drop ?_
     simp only [openB]
     rw [if_neg p,hg]
     simp only
     rw [if_neg q,he]
  ·simp only at er g5
   subst er
   have S5:=S4.call g5
   with_reducible repeat (first | (apply qzV; simp (disch:=omega) only [zA,bzS12.1] <;> rfl) | apply qzT | apply qzF | apply qzG | ((first | apply qzB | apply qzC); simp (disch:=omega) only [zA,bzS12.1] <;> rfl))
   exact open_bad S5 (by simp only [openB]; rw [if_neg p,hg])
end Go.Proofs.YtghelamfaaakcaaGreat.Sh
/- Flags that are put are got. No program's step in sight. -/
set_option linter.unusedVariables false
set_option linter.unusedSimpArgs false
set_option maxRecDepth 100000
namespace Go.Proofs.YtghelamfaaakcaaGreat.Sh
open Go Go.RowKit Go.Proofs.Ev
theorem cnt_zero {l : List Bool} (h : cnt l = 0) : l = List.replicate l.length false:=by
 refine List.eq_replicate_iff.2 ⟨rfl,fun b hb=>?_⟩
 have:=List.count_eq_zero.1 h
 cases b
 ·rfl
 ·exact absurd hb this
theorem cnt_all {l : List Bool} (h : cnt l = l.length) : l = List.replicate l.length true:=by
 refine List.eq_replicate_iff.2 ⟨rfl,fun b hb=>?_⟩
 exact (List.count_eq_length.1 h b hb).symm
theorem mid_put (l : List Bool) (b : List Nat) (hl : l.length ≤ 4096) : mid l.length (formN l) ((if formN l = 2 then putN 1 (l.map b2n) else []) ++ b) = some (l,b):=by
 unfold mid
 by_cases q : formN l = 2
 ·simp only [if_pos q]
  have hs : szV l.length = (putN 1 (l.map b2n)).length:=by
   have:=(putN_spec 1 (l.map b2n)).2.1
   rw [List.length_map] at this
   unfold szV Pk.sizeN
   omega
  obtain ⟨t1,t2⟩:=Pk.there (l:=l.map b2n) (W:=1) (by simp; omega) (by omega) (b2n_width l)
  rw [List.length_map] at t1 t2
  have e1 : ((1 : Nat) : Int) = 1:=rfl
  rw [e1] at t1 t2
  rw [if_neg (by simp; omega),hs,List.take_left' rfl,if_neg (fun h=>h t1),t2,List.drop_left' rfl,List.map_map]
  congr 2
  conv=>rhs; rw [← List.map_id l]
  refine List.map_congr_left fun x _=>?_
  cases x <;> rfl
 ·simp only [if_neg q,List.nil_append]
  unfold formN at q ⊢
  by_cases c0 : cnt l = 0
  ·rw [if_pos c0]
   congr 2
   exact (cnt_zero c0).symm
  ·rw [if_neg c0] at q ⊢
   by_cases c1 : cnt l = l.length
   ·rw [if_pos c1]
    congr 2
    exact (cnt_all c1).symm
   ·rw [if_neg c1] at q
    exact absurd rfl q
theorem get_put (l : List Bool) (b : List Nat) (hl : l.length ≤ 4096) : getV (putV l ++ b) = some (l,(putV l).length):=by
 have hd : dec 0 0 (putV l ++ b) = some (l.length,formN l :: ((if formN l = 2 then putN 1 (l.map b2n) else []) ++ b)):=by
  have:=dec_pvar ((formN l :: (if formN l = 2 then putN 1 (l.map b2n) else [])) ++ b) l.length (i:=0) (acc:=0) (.inl rfl) (by simp; omega)
  unfold putV
  rw [List.append_assoc,this]
  simp
 unfold getV
 rw [hd]
 simp only
 have hf:=formN_le l
 rw [if_neg (by omega),if_neg (by omega),mid_put l b hl]
 simp only [List.length_append]
 have e : (putV l).length + b.length - b.length = (putV l).length:=by omega
 rw [e,List.take_left' rfl,if_pos rfl]
end Go.Proofs.YtghelamfaaakcaaGreat.Sh
/- Segments that are put are read: zones. What 'Zone' comes to. -/
set_option linter.unusedVariables false
set_option linter.unusedSimpArgs false
set_option maxRecDepth 100000
namespace Go.Proofs.YtghelamfaaakcaaGreat.Sh
open Go Go.RowKit Go.Proofs.Ev Go.Lib
open Tryz (prog)
def bzS13:=PLift.up (ai @ld3 (ai @ld2 (ai @ld9 (ai @ld4 (ai @ld31 (ai @ld38 (ai @ld66 (ai @fa38_0 (ai @fa38_1 (ai @fa38_2 (ai @fa38_3 (ai @fa66_0 (ai @fa66_1 (ai @fa66_2 (ai @fa66_3 (ai @aggC (ai @aggZ (ai @ex2_0 (ai @ex2_1 (ai @ex3_0 (ai @ex3_1 (ai @ex3_2 (@Nat.add_zero)))))))))))))))))))))))
def i64in (z : Int) : Prop:=-9223372036854775808 ≤ z ∧ z ≤ 9223372036854775807
/-! ### A value that is put is read -/
theorem rdN_put {c : CellD} (hi : i64in c.i) (r : List Nat) : rdN (oneN c ++ r) = some (c.i,r):=by
 unfold rdN oneN
 have hl:=le_len (toU c.i) 8 0
 rw [if_neg (by rw [List.length_append,hl]; omega),List.take_left' hl,List.drop_left' hl,ofB_le]
 have h256 : (256 : Nat) ^ 8 = 18446744073709551616:=by decide
 have hlt:=toU_lt c.i
 simp only [Nat.mul_zero,Nat.pow_zero,Nat.div_one,h256,Nat.mod_eq_of_lt hlt]
 unfold i64in at hi
 rw [wrap_i64']
 unfold toU
 congr 2
 split <;> omega
theorem rdT_put {c : CellD} (r : List Nat) : rdT (oneT c ++ r) = some (toU c.i % 256,r):=by
 unfold rdT oneT
 rw [if_neg (by simp)]
 simp [ofB]
theorem rdW_put {c : CellD} (hs : c.s.size ≤ 65536) (r : List Nat) : rdW (oneW c ++ r) = some (c.s,r):=by
 unfold rdW oneW
 rw [List.append_assoc,dec_pvar _ c.s.size (i:=0) (acc:=0) (.inl rfl) (by simp; omega)]
 simp only [Nat.zero_add,Nat.mul_zero,Nat.pow_zero,Nat.mul_one]
 rw [if_neg (by omega),if_neg (by rw [List.length_append,bytesN_len]; omega),List.take_left' (bytesN_len _),List.drop_left' (bytesN_len _)]
 have e : strB (bytesN c.s) = c.s:=by
  unfold strB bytesN
  rw [List.map_map]
  have e : (UInt8.ofNat ∘ UInt8.toNat) = id:=funext fun x=>by simp
  rw [e,List.map_id]
 rw [e]
theorem mkN_good {c : CellD} (h : goodC 1 c) : mkN c.i = c:=by
 have hb:=cellE_bare h.2
 unfold bare at hb
 rw [if_neg (by rw [h.1]; decide),if_pos h.1,h.1] at hb
 exact hb
theorem mkT_good {c : CellD} (h : goodC 2 c) : mkT (toU c.i % 256) = c:=by
 have h01:=good_bool h
 have hb:=cellE_bare h.2
 unfold bare at hb
 rw [if_neg (by rw [h.1]; decide),if_neg (by rw [h.1]; decide),if_pos h.1,h.1] at hb
 have hs : (.empty : ByteArray) = c.s:=congrArg CellD.s hb
 unfold mkT
 have e : IntKind.i64.wrap ((toU c.i % 256 : Nat) : Int) = c.i:=by rcases h01 with e | e <;> rw [e] <;> decide
 rw [e]
 have hbs : c.bytes = ByteArray.empty.data.toList:=by unfold CellD.bytes; rw [← hs]
 exact CellD.ext' h.1.symm rfl hbs.symm
theorem mkW_good {c : CellD} (h : goodC 3 c) : mkW c.s = c:=by
 have hb:=cellE_bare h.2
 unfold bare at hb
 rw [if_neg (by rw [h.1]; decide),if_neg (by rw [h.1]; decide),if_neg (by rw [h.1]; decide),h.1] at hb
 exact hb
theorem endB_put {kind : Int} (hk : 1 ≤ kind ∧ kind ≤ 3) {a b : CellD} (ha : goodC kind a) (hb : goodC kind b) (ia : i64in a.i) (ib : i64in b.i) (r : List Nat) : endB kind (oneB kind a ++ oneB kind b ++ r) = some (a,b,r):=by
 have h : kind = 1 ∨ kind = 2 ∨ kind = 3:=by omega
 rw [List.append_assoc]
 rcases h with rfl | rfl | rfl
 ·show endG rdN mkN (oneN a ++ (oneN b ++ r)) = _
  unfold endG
  simp only [rdN_put ia,rdN_put ib,mkN_good ha,mkN_good hb]
 ·show endG rdT mkT (oneT a ++ (oneT b ++ r)) = _
  unfold endG
  simp only [rdT_put,mkT_good ha,mkT_good hb]
 ·show endG rdW mkW (oneW a ++ (oneW b ++ r)) = _
  unfold endG
  simp only [rdW_put (cellE_size ha.2),rdW_put (cellE_size hb.2),mkW_good ha,mkW_good hb]
theorem cnt_flg (l : List CellD) : cnt (flg l) + (vals l).length = l.length:=by
 unfold cnt flg vals
 induction l with
 | nil=>rfl
 | cons c l ih =>
  rw [List.map_cons,List.count_cons,List.filter_cons,List.length_cons]
  by_cases q : c.k = 0
  ·simp [q]; omega
  ·simp [q]; omega
def restB (kind : Int) (l : List CellD) : List Nat:=if l = [] then [] else cellsB kind l
theorem open_put {kind : Int} {l : List CellD} (h : segE kind l = 0) (hi : ∀ c ∈ l,i64in c.i) (b : List Nat) : openB (segB kind l ++ b) = some (kind,flg l,ofZ l,restB kind (vals l) ++ b):=by
 obtain ⟨hk,hl,hall⟩:=segE_zero.1 h
 have hg:=good_vals hall
 have hkn : ((kind.toNat : Nat) : Int) = kind:=by omega
 have hfl : (flg l).length = l.length:=List.length_map ..
 have hc:=cnt_flg l
 have e : segB kind l ++ b = kind.toNat :: (putV (flg l) ++ (tailB kind (vals l) ++ b)):=by unfold segB; simp
 rw [e,openB,hkn,if_neg (fun q=>q hk),get_put _ _ (by omega)]
 simp only [List.drop_left]
 have ez:=ofZ_rep l (by omega)
 by_cases q : vals l = []
 ·have hz : ofZ l = ⟨(flg l).length,cnt (flg l),c0,c0⟩:=by
   rw [ez,q]
   rw [q] at hc
   simp only [List.length_nil,Nat.add_zero] at hc
   unfold repZ
   rw [hfl,hc]
   simp [mnL,mxL]
  rw [q] at hc
  simp only [List.length_nil,Nat.add_zero] at hc
  rw [if_pos (by omega),hz]
  unfold restB tailB
  rw [if_pos q,if_pos q]
 ·have hvl : 0 < (vals l).length:=List.length_pos_iff.2 q
  rw [if_neg (by omega)]
  obtain ⟨m1,m2⟩:=mn_mem (l:=vals l) (by omega) vals_ne q
  have evv : vals (vals l) = vals l:=vals_self vals_ne
  have ezv:=ofZ_rep (vals l) (by omega)
  rw [evv] at ezv
  have emn : (ofZ (vals l)).mn = (ofZ l).mn:=by rw [ez,ezv]; rfl
  have emx : (ofZ (vals l)).mx = (ofZ l).mx:=by rw [ez,ezv]; rfl
  have hmem : ∀ c ∈ vals l,c ∈ l:=fun c hc=>(List.mem_filter.1 hc).1
  have et : tailB kind (vals l) ++ b = oneB kind (ofZ l).mn ++ oneB kind (ofZ l).mx ++ (cellsB kind (vals l) ++ b):=by
   unfold tailB
   rw [if_neg q,emn,emx]
   simp
  rw [emn] at m1
  rw [emx] at m2
  rw [et,endB_put hk (hg _ m1) (hg _ m2) (hi _ (hmem _ m1)) (hi _ (hmem _ m2))]
  have hz : ofZ l = ⟨(flg l).length,cnt (flg l),(ofZ l).mn,(ofZ l).mx⟩:=by
   rw [ez]
   unfold repZ
   rw [hfl]
   congr 1
   omega
  have hle : (ofZ l).mn.cmp (ofZ l).mx ≤ 0:=by
   rw [ez]
   exact (mnL_spec q).2 _ (mxL_spec q).1
  simp only
  rw [← hz,if_pos (zoneE_zero.2 ⟨(hg _ m1).1,(hg _ m2).1,(hg _ m1).2,(hg _ m2).2,hle⟩)]
  unfold restB
  rw [if_neg q]
/-! ### 'Zone' -/
theorem f15c {k : Nat} {h : AH} {bs : List Nat} (hb : ∀ x ∈ bs,x < 256) (hl : bs.length ≤ 2 ^ 19) (hk : 7000 + bs.length < k) :
  Tl (eInv env (k + 2001) (.func 15) #[] #[.string (strB bs)] h) fun r=>((∃ kind l z rest,openB bs = some (kind,l,z,rest) ∧ r.1 = .tuple #[.int .i64 kind,zv z,.int .i64 0]) ∨ (openB bs = none ∧ r.1 = .tuple #[.int .i64 0,zv z0,.int .i64 4])) ∧ Grow h r.2:=by
 rw [F15_call]
 unfold F15
 refine Tl.alloc' (Stt.init h) ze38 rfl fun b3 h1 S1 _=>?_
 have S1 : Stt prog h.n h h1 [Zr b3 z0] []:=S1
 refine Tl.bind (f36c (k:=k) hb hl hk) ?_
 have bz0 : pBuild prog 38 #[] = some (zv z0):=by kernel_rfl
 rintro ⟨r,h2⟩ (⟨kind,l,z,rest,nv,rv,ho,er,S2⟩ | ⟨ho,kind,z,a,m,c,er,g2⟩)
 ·simp only at er S2
  subst er
  obtain ⟨a,c,eo,_⟩:=(S2.slV 0 rfl).form
  subst eo
  obtain ⟨a2,c2,eo2,_⟩:=(S2.slV 1 rfl).form
  subst eo2
  have S3:=S1.call S2.grow
  with_reducible repeat (first | (apply qzV; simp (disch:=omega) only [zA,bzS13.1] <;> rfl) | apply qzT | apply qzF | (apply qzB; simp (disch:=omega) only [zA,bzS13.1] <;> rfl))
  refine Tl.alloc' S3 ze66 rfl fun b5 h4 S4 _=>?_
  refine Tl.store' S4 0 rfl sz66 rfl rfl (of_decide_eq_true rfl) fun h5 S5 _=>?_
  have S5 : Stt prog h.n h h5 [Op b5 kind (.slice a2 (brows l).length c2) z (.slice a (u8rows rest).length c),Zr b3 z0] []:=S5
  obtain ⟨_,k5,z5,_,_⟩:=o_at S5 0 rfl
  with_reducible repeat (first | (apply qzV; simp (disch:=omega) only [zA,bzS13.1,k5,z5] <;> rfl) | apply qzT | apply qzF | (apply qzB; simp (disch:=omega) only [zA,bzS13.1,k5,z5] <;> rfl))
  refine Tl.store' S5 1 rfl sz38 rfl rfl (of_decide_eq_true rfl) fun h6 S6 _=>?_
  have S6 : Stt prog h.n h h6 [Op b5 kind (.slice a2 (brows l).length c2) z (.slice a (u8rows rest).length c),Zr b3 z] []:=S6
  have r6:=(z_at S6 1 rfl).all
  with_reducible repeat (first | (apply qzV; simp (disch:=omega) only [zA,bzS13.1,r6] <;> rfl) | apply qzT | apply qzF | (apply qzB; simp (disch:=omega) only [zA,bzS13.1,r6] <;> rfl))
  exact ⟨_,rfl,.inl ⟨kind,l,z,rest,ho,rfl⟩,S6.grow⟩
 ·simp only at er g2
  subst er
  have S3:=S1.call g2
  with_reducible repeat (first | (apply qzV; simp (disch:=omega) only [zA,bzS13.1] <;> rfl) | apply qzT | apply qzF | (apply qzB; simp (disch:=omega) only [zA,bzS13.1] <;> rfl))
  refine Tl.alloc' S3 ze66 rfl fun b5 h4 S4 _=>?_
  refine Tl.store' S4 0 rfl sz66 rfl rfl (of_decide_eq_true rfl) fun h5 S5 _=>?_
  have S5 : Stt prog h.n h h5 [Op b5 kind (.slice a m c) z (.slice none 0 0),Zr b3 z0] []:=S5
  with_reducible repeat (first | (apply qzV; simp (disch:=omega) only [zA,bzS13.1,bz0] <;> rfl) | apply qzT | apply qzF | (apply qzB; simp (disch:=omega) only [zA,bzS13.1,bz0] <;> rfl))
  refine Tl.store' S5 1 rfl sz38 rfl rfl (of_decide_eq_true rfl) fun h6 S6 _=>?_
  have S6 : Stt prog h.n h h6 [Op b5 kind (.slice a m c) z (.slice none 0 0),Zr b3 z0] []:=S6
  have r6:=(z_at S6 1 rfl).all
  with_reducible repeat (first | (apply qzV; simp (disch:=omega) only [zA,bzS13.1,r6] <;> rfl) | apply qzT | apply qzF | (apply qzB; simp (disch:=omega) only [zA,bzS13.1,r6] <;> rfl))
  exact ⟨_,rfl,.inr ⟨ho,rfl⟩,S6.grow⟩
end Go.Proofs.YtghelamfaaakcaaGreat.Sh
/- 'SegmentNulls' comes to true. -/
set_option linter.unusedVariables false
set_option linter.unusedSimpArgs false
set_option maxRecDepth 100000
namespace Go.Proofs.YtghelamfaaakcaaGreat.Sh
open Go Go.RowKit Go.Proofs.Ev Go.Lib
end Go.Proofs.YtghelamfaaakcaaGreat.Sh
/- Light cells, with their texts' bytes; how many bytes a segment has; a copy of cells. -/
set_option linter.unusedVariables false
set_option linter.unusedSimpArgs false
set_option maxRecDepth 100000
namespace Go.Proofs.YtghelamfaaakcaaGreat.Sh
open Go Go.RowKit Go.Proofs.Ev Go.Lib
open Tryz (prog)
def bzS14:=PLift.up (ai @ld3 (ai @ld2 (ai @ld9 (ai @ld31 (ai @fa31_0 (ai @fa31_1 (ai @fa31_2 (ai @aggC (@Nat.add_zero)))))))))
def tot (l : List CellD) : Nat:=(l.map fun c=>c.s.size).sum
theorem tot_cons (c : CellD) (l : List CellD) : tot (c :: l) = c.s.size + tot l:=by unfold tot; rw [List.map_cons,List.sum_cons]
theorem tot_filter (p : CellD→Bool) (l : List CellD) : tot (l.filter p) ≤ tot l:=by
 induction l with
 | nil=>exact Nat.le_refl _
 | cons c l ih =>
  rw [List.filter_cons,tot_cons]
  split
  ·rw [tot_cons]; omega
  ·omega
theorem f27_loopT {β : Type} {inv : Inv} {k : Nat} {Q : β→Prop} {h : AH} {v : Value} {l : List CellD} (S : Cells h v l) (hl : l.length ≤ 60) {ke0 : Value→Value→Value→Value→Value→AH→Option β} {kr : Value→AH→Option β}
  (hr : Tl (kr (.bool false) h) Q) (n : Nat) :
  ∀ {i j a : Nat} {s : Int},i + n = l.length→n < j→((∀ c ∈ l,c.s.size ≤ 65536)→s = (a : Int) ∧ a ≤ 600)→(((∀ c ∈ l,c.s.size ≤ 65536)→a + tot (l.drop i) ≤ 600)→∀ y7 y8 y16,Tl (ke0 v (.int .i64 600) y7 y8 y16 h) Q) →
   Tl (F27_lrlrrr inv k j v (.int .i64 600) (.int .i64 s) (.int .i64 i) h ke0 kr) Q:=by
 have hlen : ∀ h',pLen prog #[22] v h' = some (.int .i64 l.length):=fun h'=>S.len
 induction n with
 | zero =>
  intro i j a s hi hj hs hk
  obtain ⟨j,rfl⟩ : ∃ q,j = q + 1:=⟨j - 1,by omega⟩
  simp only [F27_lrlrrr]
  with_reducible repeat (first | (apply qzV; simp (disch:=omega) only [zA,bzS14.1,hlen] <;> rfl) | apply qzT | apply qzF | (apply qzB; simp (disch:=omega) only [zA,bzS14.1,hlen] <;> rfl))
  exact hk (fun q=>by rw [List.drop_eq_nil_of_le (by omega)]; exact (hs q).2) _ _ _
 | succ n ih =>
  intro i j a s hi hj hs hk
  obtain ⟨j,rfl⟩ : ∃ q,j = q + 1:=⟨j - 1,by omega⟩
  obtain ⟨c,hc⟩ : ∃ c,l[i]? = some c:=⟨_,List.getElem?_eq_getElem (by omega)⟩
  obtain ⟨b,o,hx,hrow⟩:=S.at_ hc
  have h2 : h.cell b (o + 2) = some (.string c.s):=Ev.cell_of_row (j:=2) hrow (by omega)
  have hsz : ∀ h' : AH,pLen prog #[9] (.string c.s) h' = some (.int .i64 c.s.size):=fun h'=>len_string u9
  have e : (i : Int) + 1 = ((i + 1 : Nat) : Int):=by omega
  rw [drop_at hc,tot_cons] at hk
  simp only [F27_lrlrrr]
  by_cases q : IntKind.i64.wrap (s + ((c.s.size : Nat) : Int)) > 600
  ·with_reducible repeat (first | (apply qzV; simp (disch:=omega) only [zA,bzS14.1,hlen,hx,h2,hsz] <;> rfl) | apply qzT | apply qzF | (apply qzB; simp (disch:=omega) only [zA,bzS14.1,hlen,hx,h2,hsz] <;> rfl))
   exact hr
  ·with_reducible repeat (first | (apply qzV; simp (disch:=omega) only [zA,bzS14.1,hlen,hx,h2,hsz] <;> rfl) | apply qzT | apply qzF | (apply qzB; simp (disch:=omega) only [zA,bzS14.1,hlen,hx,h2,hsz] <;> rfl))
   rw [e]
   refine ih (a:=a + c.s.size) (by omega) (by omega) (fun hq=>?_) (fun hq=>hk fun h3=>by have:=hq h3; omega)
   obtain ⟨rfl,h4⟩:=hs hq
   have h5:=hq c (List.mem_of_getElem? hc)
   have h6 : IntKind.i64.wrap ((a : Int) + ((c.s.size : Nat) : Int)) = (a : Int) + (c.s.size : Int):=wr_i64 (by omega)
   rw [h6] at q ⊢
   exact ⟨by omega,by omega⟩
theorem f10t {k : Nat} {h : AH} {v : Value} {l : List CellD} (S : Cells h v l) (hl : l.length ≤ 9223372036854775807) (hk : 61 < k) : ∃ b,eInv env (k + 2) (.func 10) #[] #[v] h = some (.bool b,h) ∧ (b = true→l.length ≤ 60 ∧ ((∀ c ∈ l,c.s.size ≤ 65536)→tot l ≤ 600)):=by
 have T : Tl (F27 (eInv env k) k v (.int .i64 60) (.int .i64 600) h) fun r=>∃ b,r = (.bool b,h) ∧ (b = true→l.length ≤ 60 ∧ ((∀ c ∈ l,c.s.size ≤ 65536)→tot l ≤ 600)):=by
  unfold F27
  have hlen : ∀ h',pLen prog #[22] v h' = some (.int .i64 l.length):=fun h'=>S.len
  by_cases q : l.length > 60
  ·with_reducible repeat (first | (apply qzV; simp (disch:=omega) only [zA,bzS14.1,hlen] <;> rfl) | apply qzT | apply qzF | (apply qzB; simp (disch:=omega) only [zA,bzS14.1,hlen] <;> rfl))
   exact ⟨_,rfl,false,rfl,fun h=>by cases h⟩
  ·with_reducible repeat (first | (apply qzV; simp (disch:=omega) only [zA,bzS14.1,hlen] <;> rfl) | apply qzT | apply qzF | (apply qzB; simp (disch:=omega) only [zA,bzS14.1,hlen] <;> rfl))
   refine f27_loopT S (by omega) ⟨_,rfl,false,rfl,fun h=>by cases h⟩ l.length (i:=0) (a:=0) (by omega) (by omega) (fun _=>⟨rfl,by omega⟩) fun hq y7 y8 y16=>⟨_,rfl,true,rfl,fun _=>⟨by omega,fun h3=>?_⟩⟩
   have:=hq h3
   rw [List.drop_zero] at this
   omega
 obtain ⟨r,h1,b,h2,h3⟩:=T
 refine ⟨b,?_,h3⟩
 have T2 : Tl (F10 (eInv env (k + 1)) (k + 1) v h) fun r=>r = (.bool b,h):=by
  unfold F10
  have e : eInv env (k + 1) (.func 27) #[] #[v,.int .i64 60,.int .i64 600] h = some (.bool b,h):=by rw [F27_call,h1,h2]
  with_reducible repeat (first | (apply qzV; simp (disch:=omega) only [zA,bzS14.1,e] <;> rfl) | apply qzT | apply qzF | (apply qzB; simp (disch:=omega) only [zA,bzS14.1,e] <;> rfl))
  exact ⟨_,rfl,rfl⟩
 obtain ⟨r2,g1,g2⟩:=T2
 rw [F10_call,g1,g2]
/-! ### A segment's bytes -/
theorem putI_256 (l : List Int) : ∀ x ∈ putI l,x < 256:=by
 have hh : ∀ {f : Nat},f < 256→∀ n,∀ x ∈ headB f n,x < 256:=fun {f} hf n x hx=>by
  unfold headB at hx
  rcases List.mem_cons.1 hx with rfl | hx
  ·exact hf
  ·exact pvarN_256 _ x hx
 have h1 : ∀ x ∈ plainB l,x < 256:=fun x hx=>by
  unfold plainB at hx
  rcases List.mem_append.1 hx with hx | hx
  ·exact hh (by omega) _ x hx
  ·obtain ⟨z,_,hz⟩:=List.mem_flatMap.1 hx
   exact le_lt _ _ _ x hz
 have h2 : ∀ x ∈ runsB l,x < 256:=fun x hx=>by
  unfold runsB at hx
  rcases List.mem_append.1 hx with hx | hx
  ·exact hh (by omega) _ x hx
  ·obtain ⟨z,_,hz⟩:=List.mem_flatMap.1 hx
   unfold runB at hz
   rcases List.mem_append.1 hz with hz | hz
   ·exact pvarN_256 _ x hz
   ·exact le_lt _ _ _ x hz
 have h3 : ∀ x ∈ packB l,x < 256:=fun x hx=>by
  unfold packB at hx
  rcases List.mem_append.1 hx with hx | hx
  ·rcases List.mem_append.1 hx with hx | hx
   ·exact hh (by omega) _ x hx
   ·exact le_lt _ _ _ x hx
  ·rcases List.mem_cons.1 hx with rfl | hx
   ·have:=Pk.width64 (l:=moreI l) (moreI_lt l)
    unfold widI
    omega
   ·exact (putN_spec _ _).2.2 x hx
 intro x hx
 unfold putI at hx
 simp only at hx
 split at hx <;> split at hx
 ·exact h3 x hx
 ·exact h2 x hx
 ·exact h3 x hx
 ·exact h1 x hx
theorem putT_256 (l : List ByteArray) : ∀ x ∈ putT l,x < 256:=fun x hx=>by
 unfold putT at hx
 split at hx
 ·rename_i hm
  split at hx
  ·exact dictG_256 l x (by unfold dictG; rw [if_pos hm]; exact hx)
  ·exact plainG_256 l x (by unfold plainG; rw [if_pos hm]; exact hx)
 ·cases hx
theorem putV_256 (l : List Bool) : ∀ x ∈ putV l,x < 256:=fun x hx=>by
 unfold putV at hx
 have:=formN_le l
 rcases List.mem_append.1 hx with hx | hx
 ·exact pvarN_256 _ x hx
 ·rcases List.mem_cons.1 hx with rfl | hx
  ·omega
  ·split at hx
   ·exact (putN_spec _ _).2.2 x hx
   ·cases hx
theorem oneB_256 (kind : Int) (c : CellD) : ∀ x ∈ oneB kind c,x < 256:=fun x hx=>by
 unfold oneB at hx
 split at hx
 ·exact le_lt _ _ _ x hx
 ·split at hx
  ·unfold oneT at hx
   rw [List.mem_singleton] at hx
   omega
  ·unfold oneW at hx
   rcases List.mem_append.1 hx with hx | hx
   ·exact pvarN_256 _ x hx
   ·exact bytesN_lt _ x hx
theorem cellsB_256 (kind : Int) (l : List CellD) : ∀ x ∈ cellsB kind l,x < 256:=fun x hx=>by
 unfold cellsB at hx
 split at hx
 ·exact putI_256 _ x hx
 ·split at hx
  ·unfold Pk.putL at hx
   split at hx
   ·exact (putN_spec _ _).2.2 x hx
   ·cases hx
  ·exact putT_256 _ x hx
theorem segB_256 {kind : Int} (hk : 1 ≤ kind ∧ kind ≤ 3) (l : List CellD) : ∀ x ∈ segB kind l,x < 256:=fun x hx=>by
 unfold segB tailB at hx
 rcases List.mem_append.1 hx with hx | hx
 ·rcases List.mem_append.1 hx with hx | hx
  ·rw [List.mem_singleton] at hx
   omega
  ·exact putV_256 _ x hx
 ·split at hx
  ·cases hx
  ·rcases List.mem_append.1 hx with hx | hx
   ·rcases List.mem_append.1 hx with hx | hx
    ·exact oneB_256 _ _ x hx
    ·exact oneB_256 _ _ x hx
   ·exact cellsB_256 _ _ x hx
theorem plainT_tot : ∀ (l : List CellD),(∀ c ∈ l,c.s.size ≤ 65536)→((valsW l).flatMap textP).length ≤ 10 * l.length + tot l
 | [],_=>by simp [valsW,tot]
 | c :: l,h=>by
  have ih:=plainT_tot l fun x hx=>h x (List.mem_cons_of_mem _ hx)
  have hc:=h c (List.mem_cons_self ..)
  unfold valsW at ih ⊢
  rw [List.map_cons,List.flatMap_cons,List.length_append,tot_cons,List.length_cons]
  have:=pvarN_le10 (n:=c.s.size) (by omega)
  unfold textP at ih ⊢
  rw [List.length_append,bytesN_len]
  omega
theorem tot_mem {c : CellD} : ∀ {l : List CellD},c ∈ l→c.s.size ≤ tot l
 | d :: l,h=>by
  rw [tot_cons]
  rcases List.mem_cons.1 h with rfl | h
  ·omega
  ·have:=tot_mem h; omega
theorem segB_bound {kind : Int} {l : List CellD} (h : segE kind l = 0) (hl : l.length ≤ 4096) (ht : tot l ≤ 100000) : (segB kind l).length ≤ 700 + 3 * tot l + 10 * l.length:=by
 obtain ⟨hk,_,hall⟩:=segE_zero.1 h
 have hg:=good_vals hall
 have hvl:=vals_le l
 have hp:=putV_len (l:=flg l) (by have : (flg l).length = l.length:=List.length_map ..; omega)
 have hone : ∀ c : CellD,c.s.size ≤ tot l→(oneB kind c).length ≤ tot l + 10:=fun c hc=>by
  unfold oneB
  split
  ·unfold oneN; rw [le_len]; omega
  ·split
   ·simp [oneT]
   ·unfold oneW
    have:=pvarN_le10 (n:=c.s.size) (by omega)
    rw [List.length_append,bytesN_len]
    omega
 unfold segB tailB
 rw [List.length_append,List.length_append,List.length_singleton]
 split
 ·simp only [List.length_nil]; omega
 ·rename_i q
  obtain ⟨m1,m2⟩:=mn_mem (l:=vals l) (by omega) vals_ne q
  have hsz : ∀ c ∈ vals l,c.s.size ≤ tot l:=fun c hc=>by
   exact tot_mem (List.mem_filter.1 hc).1
  have o1:=hone _ (hsz _ m1)
  have o2:=hone _ (hsz _ m2)
  rw [List.length_append,List.length_append]
  have hc : (cellsB kind (vals l)).length ≤ 11 + 10 * l.length + tot l:=by
   unfold cellsB
   split
   ·have e : (valsN (vals l)).length = (vals l).length:=List.length_map ..
    have:=putI_le (l:=valsN (vals l)) (by omega)
    omega
   ·split
    ·unfold Pk.putL
     split
     ·have:=(putN_spec (1 : Int).toNat (valsT (vals l))).2.1
      have e : (valsT (vals l)).length = (vals l).length:=List.length_map ..
      have e1 : (1 : Int).toNat = 1:=rfl
      rw [this,e,e1]
      omega
     ·simp
    ·unfold putT
     split
     ·have h1:=plainT_tot (vals l) fun c hc=>cellE_size (hg c hc).2
      have h2 : tot (vals l) ≤ tot l:=tot_filter _ l
      have e : (valsW (vals l)).length = (vals l).length:=List.length_map ..
      have h3:=pvarN_le10 (n:=(valsW (vals l)).length) (by omega)
      have h4 : (plainT (valsW (vals l))).length ≤ 11 + (10 * (vals l).length + tot (vals l)):=by
       unfold plainT
       rw [List.length_cons,List.length_append]
       omega
      split <;> omega
     ·simp
  omega
/-! ### A copy -/
end Go.Proofs.YtghelamfaaakcaaGreat.Sh
/- What 'segment.Get' comes to. -/
set_option linter.unusedVariables false
set_option linter.unusedSimpArgs false
set_option maxRecDepth 100000
namespace Go.Proofs.YtghelamfaaakcaaGreat.Sh
open Go Go.RowKit Go.Proofs.Ev Go.Lib
open Tryz (prog)
def bzS19:=PLift.up (ai @ld3 (ai @ld2 (ai @ld9 (ai @ld4 (ai @ld31 (ai @ld38 (ai @ld66 (ai @ld33 (ai @ld32 (ai @fa38_0 (ai @fa38_1 (ai @fa38_2 (ai @fa38_3 (ai @fa66_0 (ai @fa66_1 (ai @fa66_2 (ai @fa66_3 (ai @aggC (ai @aggZ (ai @ex2_0 (ai @ex2_1 (ai @ex3_0 (ai @ex3_1 (ai @ex3_2 (@Nat.add_zero)))))))))))))))))))))))))
/-! ### What is got, without the program -/
def backB (kind : Int) (b : List Nat) (n : Nat) : Option (List CellD):=if kind = 1 then bkN b n else if kind = 2 then bkT b n else bkW b n
/-- Cells in the places of the flags that are not true. -/
def fillF : List Bool→List CellD→List CellD
 | [],_=>[]
 | true :: l,cs=>c0 :: fillF l cs
 | false :: l,c :: cs=>c :: fillF l cs
 | false :: l,[]=>c0 :: fillF l []
def someB (kind : Int) (l : List Bool) (rest : List Nat) : Option (List CellD):=if l.length - cnt l = 0 then some [] else backB kind rest (l.length - cnt l)
def gotB (bs : List Nat) : Option (Int × List CellD):=match openB bs with
 | none=>none
 | some (kind,l,_,rest)=>match someB kind l rest with
  | none=>none
  | some cs=>if segE kind (fillF l cs) = 0 ∧ segB kind (fillF l cs) = bs then some (kind,fillF l cs) else none
theorem backB_len {kind : Int} {b : List Nat} {n : Nat} {cs : List CellD} (h : backB kind b n = some cs) : cs.length = n:=by
 unfold backB at h
 split at h
 ·unfold bkN at h
  split at h
  ·cases h
  ·split at h
   ·cases h; rw [List.length_map]; assumption
   ·cases h
 ·split at h
  ·unfold bkT at h
   split at h
   ·cases h
   ·split at h
    ·cases h; rw [List.length_map]; assumption
    ·cases h
  ·unfold bkW at h
   split at h
   ·cases h
   ·split at h
    ·cases h; rw [List.length_map]; assumption
    ·cases h
theorem spread_at : ∀ (l : List Bool) (n : Int) (i : Nat),i < l.length→(spreadL n l)[i]? = some (if (l[i]?).getD true = true then -1 else n + ((l.take i).count false : Nat))
 | [],_,i,h=>by simp at h
 | true :: l,n,0,h=>by simp [spreadL]
 | false :: l,n,0,h=>by simp [spreadL]
 | true :: l,n,i + 1,h=>by
  have:=spread_at l n i (by simpa using h)
  simp only [spreadL,List.getElem?_cons_succ,List.take_succ_cons]
  rw [this]
  simp
 | false :: l,n,i + 1,h=>by
  have:=spread_at l (n + 1) i (by simpa using h)
  simp only [spreadL,List.getElem?_cons_succ,List.take_succ_cons]
  rw [this]
  simp only [List.count_cons_self]
  split
  ·rfl
  ·congr 1; omega
theorem fill_take : ∀ (l : List Bool) (cs : List CellD) (i : Nat),(l.length - cnt l) ≤ cs.length→i < l.length →
  (fillF l cs)[i]? = some (if (l[i]?).getD true = true then c0 else (cs[(l.take i).count false]?).getD c0)
 | [],_,i,_,h=>by simp at h
 | true :: l,cs,0,_,h=>by simp [fillF]
 | true :: l,cs,i + 1,hc,h=>by
  have hcl : cnt (true :: l) = cnt l + 1:=by simp [cnt]
  have:=fill_take l cs i (by rw [hcl] at hc; simp at hc; omega) (by simpa using h)
  simp only [fillF,List.getElem?_cons_succ,List.take_succ_cons]
  rw [this]
  simp
 | false :: l,c :: cs,0,_,h=>by simp [fillF]
 | false :: l,c :: cs,i + 1,hc,h=>by
  have hcl : cnt (false :: l) = cnt l:=by simp [cnt]
  have hle:=cnt_le l
  have:=fill_take l cs i (by rw [hcl] at hc; simp at hc; omega) (by simpa using h)
  simp only [fillF,List.getElem?_cons_succ,List.take_succ_cons]
  rw [this]
  simp
 | false :: l,[],i,hc,h=>by
  have hcl : cnt (false :: l) = cnt l:=by simp [cnt]
  have hle:=cnt_le l
  rw [hcl] at hc
  simp at hc
  omega
theorem fill_len : ∀ (l : List Bool) (cs : List CellD),(fillF l cs).length = l.length
 | [],_=>rfl
 | true :: l,cs=>by simp [fillF,fill_len l cs]
 | false :: l,c :: cs=>by simp [fillF,fill_len l cs]
 | false :: l,[]=>by simp [fillF,fill_len l []]
theorem count_false (l : List Bool) : l.count false = l.length - cnt l:=by
 unfold cnt
 induction l with
 | nil=>rfl
 | cons b l ih =>
  have:=List.count_le_length (a:=true) (l:=l)
  cases b
  ·simp [ih]; omega
  ·simp [ih]
theorem count_take_lt {l : List Bool} {i : Nat} (h : l[i]? = some false) : (l.take i).count false < l.count false:=by
 have hlt:=(List.getElem?_eq_some_iff.1 h).1
 have e2 : l[i] = false:=(List.getElem?_eq_some_iff.1 h).2
 have e : l = l.take i ++ false :: l.drop (i + 1):=by
  have:=List.take_append_drop i l
  rw [List.drop_eq_getElem_cons hlt,e2] at this
  exact this.symm
 conv=>rhs; rw [e]
 rw [List.count_append,List.count_cons_self]
 omega
/-! ### The walk -/
theorem own_at3 {n0 : Nat} {h0 h : AH} {L : List (Nat × AO)} {O : List OS} {v : Value} {l : List CellD} (S : Stt prog n0 h0 h L O) (i : Nat) (hi : O[i]? = some (v,3,crows l)) {j : Nat} {c : CellD} (hc : l[j]? = some c) :
  ∃ bm,blkOf v = some bm ∧ pIndexAddr prog 22 v (.int .i64 j) = some (.pointer (some ⟨bm,j * 3,none⟩)) ∧ h.row bm (j * 3) 3 = some (crow c):=by
 have hlt:=(List.getElem?_eq_some_iff.1 hc).1
 obtain ⟨bm,em,hm⟩:=S.idx (t:=22) i hi (kd:=.i64) (j:=j) (by rw [crows_len]; exact hlt) u22 sz31
 have A : Cells h v l:=(S.slV i hi).z
 obtain ⟨b,o,hx,hr⟩:=A.at_ hc
 have:=hm.symm.trans hx
 simp only [Option.some.injEq,Value.pointer.injEq,Addr.mk.injEq] at this
 obtain ⟨e1,e2,_⟩:=this
 subst e1; subst e2
 exact ⟨_,em,hm,hr⟩
section
variable {n0 : Nat} {h0 h : AH} {L : List (Nat × AO)} {O : List OS}
theorem segback_c {k : Nat} {h : AH} {v : Value} {b : List Nat} {kind : Int} (hkd : 1 ≤ kind ∧ kind ≤ 3) (B : Bytes h v b) (hb : ∀ x ∈ b,x < 256) (hl : b.length ≤ 5000) (n : Nat) (hn : n ≤ 4096) (hk : 6000 < k) :
  Tl (eInv env (k + 7002) (.method "shadowbook/segment.back") #[] #[codV kind, v, .int .i64 n] h) fun r => (∃ cs o, backB kind b n = some cs ∧ r.1 = .tuple #[o, .int .i64 0] ∧ Stt prog h.n h r.2 [] [(o, 3, crows cs)]) ∨
   (backB kind b n = none ∧ r.1 = .tuple #[.slice none 0 0,.int .i64 4] ∧ Grow h r.2):=by
 have h : kind = 1 ∨ kind = 2 ∨ kind = 3:=by omega
 rcases h with rfl | rfl | rfl
 ·exact backN_c B hb hl n hn hk
 ·exact backT_c B hb hl n hn hk
 ·exact backW_c B hb hl n hn hk
theorem f21_loop {β : Type} {k : Nat} {Q : β→Prop} {n0 : Nat} {h0 : AH} {L : List (Nat × AO)} {x0 x5 cv sv : Value} {l : List Bool} {cs : List CellD} {O : List OS} (hl : l.length ≤ 4096) (hcs : l.length - cnt l ≤ cs.length)
  {ke0 : Value→Value→Value→Value→Value→Value→Value→Value→AH→Option β} (n : Nat) :
  ∀ {i j : Nat} {h : AH} {ov : Value},i + n = l.length→n < j→Stt prog n0 h0 h L ((ov,3,crows ((fillF l cs).take i)) :: (sv,1,ivrows (spreadL 0 l)) :: (cv,3,crows cs) :: O) →
   (∀ h' ov' y1 y2,Stt prog n0 h0 h' L ((ov',3,crows (fillF l cs)) :: (sv,1,ivrows (spreadL 0 l)) :: (cv,3,crows cs) :: O)→Tl (ke0 x0 ov' x5 cv sv (.int .i64 l.length) y1 y2 h') Q) →
   Tl (F21_lrlrrrrrr (eInv env k) k j x0 ov x5 cv sv (.int .i64 l.length) (.int .i64 i) h ke0) Q:=by
 have hfl:=fill_len l cs
 induction n with
 | zero =>
  intro i j h ov hi hj T hk
  obtain ⟨j,rfl⟩ : ∃ q,j = q + 1:=⟨j - 1,by omega⟩
  simp only [F21_lrlrrrrrr]
  with_reducible repeat (first | (apply qzV; simp (disch:=omega) only [zA,bzS19.1] <;> rfl) | apply qzT | apply qzF | apply qzG | ((first | apply qzB | apply qzC); simp (disch:=omega) only [zA,bzS19.1] <;> rfl))
  rw [List.take_of_length_le (by omega)] at T
  exact hk _ _ _ _ T
 | succ n ih =>
  intro i j h ov hi hj T hk
  obtain ⟨j,rfl⟩ : ∃ q,j = q + 1:=⟨j - 1,by omega⟩
  obtain ⟨f,hf⟩ : ∃ f,l[i]? = some f:=⟨_,List.getElem?_eq_getElem (by omega)⟩
  have hsp:=spread_at l 0 i (by omega)
  have hft:=fill_take l cs i hcs (by omega)
  rw [hf] at hsp hft
  obtain ⟨b,o,hp,hc⟩:=Sl1.at_ (T.sl1 (f:=iv) 1 rfl) (t:=72) (k:=.i64) hsp u72 sz3
  have hc:=hc h (Grow.refl _)
  have e : (i : Int) + 1 = ((i + 1 : Nat) : Int):=by omega
  have hct : ((l.take i).count false) ≤ i:=Nat.le_trans List.count_le_length (by rw [List.length_take]; omega)
  simp only [F21_lrlrrrrrr]
  unfold F21_lrrllrlrrrrrr
  cases f
  ·have hlt:=count_take_lt hf
   have hcf:=count_false l
   obtain ⟨c,hcc⟩ : ∃ c,cs[(l.take i).count false]? = some c:=⟨_,List.getElem?_eq_getElem (by omega)⟩
   simp only [Option.getD_some,Bool.false_eq_true,if_false,hcc,Int.zero_add] at hsp hft hc
   unfold iv at hc
   obtain ⟨bm,_,ix,rx⟩:=own_at3 T 2 rfl hcc
   with_reducible repeat (first | (apply qzV; simp (disch:=omega) only [zA,bzS19.1,hp,hc,ix,rx] <;> rfl) | apply qzT | apply qzF | apply qzG | ((first | apply qzB | apply qzC); simp (disch:=omega) only [zA,bzS19.1,hp,hc,ix,rx] <;> rfl))
   refine Tl.push T 0 rfl appCs (bsCs _ _) rfl rfl (by rw [crows_len,List.length_take]; omega) fun ov' h5 T5=>?_
   with_reducible repeat (first | (apply qzV; simp (disch:=omega) only [zA,bzS19.1] <;> rfl) | apply qzT | apply qzF | apply qzG | ((first | apply qzB | apply qzC); simp (disch:=omega) only [zA,bzS19.1] <;> rfl))
   rw [e]
   refine ih (by omega) (by omega) ?_ hk
   have e2 : crows ((fillF l cs).take i) ++ [crow c] = crows ((fillF l cs).take (i + 1)):=by rw [List.take_add_one,hft]; simp [crows]
   rw [← e2]
   exact T5
  ·simp only [Option.getD_some,if_true] at hsp hft hc
   unfold iv at hc
   have bc0 : pBuild prog 31 #[] = some c0.v:=bdC0
   with_reducible repeat (first | (apply qzV; simp (disch:=omega) only [zA,bzS19.1,hp,hc,bc0] <;> rfl) | apply qzT | apply qzF | apply qzG | ((first | apply qzB | apply qzC); simp (disch:=omega) only [zA,bzS19.1,hp,hc,bc0] <;> rfl))
   refine Tl.push T 0 rfl appCs (bsCs _ _) rfl rfl (by rw [crows_len,List.length_take]; omega) fun ov' h5 T5=>?_
   with_reducible repeat (first | (apply qzV; simp (disch:=omega) only [zA,bzS19.1] <;> rfl) | apply qzT | apply qzF | apply qzG | ((first | apply qzB | apply qzC); simp (disch:=omega) only [zA,bzS19.1] <;> rfl))
   rw [e]
   refine ih (by omega) (by omega) ?_ hk
   have e2 : crows ((fillF l cs).take i) ++ [crow c0] = crows ((fillF l cs).take (i + 1)):=by rw [List.take_add_one,hft]; simp [crows]
   rw [← e2]
   exact T5
end
end Go.Proofs.YtghelamfaaakcaaGreat.Sh
/- What 'segment.Get' comes to: the whole. -/
set_option linter.unusedVariables false
set_option linter.unusedSimpArgs false
set_option maxRecDepth 100000
namespace Go.Proofs.YtghelamfaaakcaaGreat.Sh
open Go Go.RowKit Go.Proofs.Ev Go.Lib
open Tryz (prog)
def bzS20:=PLift.up (ai @ld3 (ai @ld2 (ai @ld9 (ai @ld4 (ai @ld31 (ai @ld38 (ai @ld66 (ai @ld33 (ai @ld32 (ai @fa38_0 (ai @fa38_1 (ai @fa38_2 (ai @fa38_3 (ai @fa66_0 (ai @fa66_1 (ai @fa66_2 (ai @fa66_3 (ai @aggC (ai @aggZ (ai @ex2_0 (ai @ex2_1 (ai @ex3_0 (ai @ex3_1 (ai @ex3_2 (@Nat.add_zero)))))))))))))))))))))))))
theorem mid_n {n form : Nat} {r2 rest : List Nat} {l : List Bool} (h : mid n form r2 = some (l,rest)) : l.length = n:=by
 unfold mid at h
 split at h
 ·split at h
  ·cases h
  ·split at h
   ·cases h
   ·rename_i q
    have q:=Classical.not_not.1 q
    simp only [Option.some.injEq,Prod.mk.injEq] at h
    obtain ⟨rfl,_⟩:=h
    rw [List.length_map,Pk.getN,if_pos q,digs_len]
    rfl
 ·simp only [Option.some.injEq,Prod.mk.injEq] at h
  obtain ⟨rfl,_⟩:=h
  rw [List.length_replicate]
theorem getV_4096 {b : List Nat} {l : List Bool} {n : Nat} (h : getV b = some (l,n)) : l.length ≤ 4096:=by
 unfold getV at h
 split at h
 ·cases h
 ·split at h
  ·cases h
  ·rename_i q
   split at h
   ·cases h
   ·split at h
    ·cases h
    ·split at h
     ·cases h
     ·rename_i hm
      split at h
      ·simp only [Option.some.injEq,Prod.mk.injEq] at h
       obtain ⟨rfl,_⟩:=h
       have:=mid_n hm
       omega
      ·cases h
theorem endB_sub {kind : Int} {r r2 : List Nat} {a b : CellD} (h : endB kind r = some (a,b,r2)) : r2.length ≤ r.length ∧ ∀ x ∈ r2,x ∈ r:=by
 have key : ∀ {α : Type} (rd : List Nat→Option (α × List Nat)) (mk : α→CellD),(∀ r r1 x,rd r = some (x,r1)→r1.length ≤ r.length ∧ ∀ x ∈ r1,x ∈ r)→endG rd mk r = some (a,b,r2)→r2.length ≤ r.length ∧ ∀ x ∈ r2,x ∈ r:=by
  intro α rd mk hr h
  unfold endG at h
  cases e1 : rd r with
  | none=>rw [e1] at h; cases h
  | some x =>
   obtain ⟨x,r1⟩:=x
   rw [e1] at h
   simp only at h
   cases e2 : rd r1 with
   | none=>rw [e2] at h; cases h
   | some y =>
    obtain ⟨y,r3⟩:=y
    rw [e2] at h
    simp only [Option.some.injEq,Prod.mk.injEq] at h
    obtain ⟨_,_,rfl⟩:=h
    obtain ⟨a1,a2⟩:=hr _ _ _ e1
    obtain ⟨b1,b2⟩:=hr _ _ _ e2
    exact ⟨by omega,fun x hx=>a2 x (b2 x hx)⟩
 unfold endB at h
 split at h
 ·unfold endN at h
  exact key rdN mkN (fun _ _ _ q=>rdN_sub q) h
 ·split at h
  ·unfold endT at h
   exact key rdT mkT (fun _ _ _ q=>rdT_sub q) h
  ·unfold endW at h
   exact key rdW mkW (fun _ _ _ q=>rdW_sub q) h
theorem sameSl {a : Option Addr} {m c : Nat} : sameV (.slice a m c) (.slice a m c) = true:=by simp [sameV,sameList,same0,beqB]
theorem open_cnt {bs : List Nat} {kind : Int} {l : List Bool} {z : ZoneD} {rest : List Nat} (h : openB bs = some (kind,l,z,rest)) : (1 ≤ kind ∧ kind ≤ 3) ∧ z.cnt = l.length ∧ z.nul = cnt l ∧ l.length ≤ 4096 ∧ rest.length ≤ bs.length ∧ ∀ x ∈ rest,x ∈ bs:=by
 cases bs with
 | nil=>cases h
 | cons kb r =>
  simp only [openB] at h
  split at h
  ·cases h
  ·rename_i p
   have p:=Classical.not_not.1 p
   split at h
   ·cases h
   ·rename_i l' n hg
    have h4:=getV_4096 hg
    split at h
    ·simp only [Option.some.injEq,Prod.mk.injEq] at h
     obtain ⟨rfl,rfl,rfl,rfl⟩:=h
     exact ⟨p,rfl,rfl,h4,by rw [List.length_drop,List.length_cons]; omega,fun x hx=>List.mem_cons_of_mem _ (List.mem_of_mem_drop hx)⟩
    ·split at h
     ·cases h
     ·rename_i a b r2 he
      split at h
      ·simp only [Option.some.injEq,Prod.mk.injEq] at h
       obtain ⟨rfl,rfl,rfl,rfl⟩:=h
       obtain ⟨e1,e2⟩:=endB_sub he
       exact ⟨p,rfl,rfl,h4,by rw [List.length_drop] at e1; rw [List.length_cons]; omega,fun x hx=>List.mem_cons_of_mem _ (List.mem_of_mem_drop (e2 x hx))⟩
      ·cases h
/-- What 'Get' answers. -/
def GetS (h : AH) (bs : List Nat) (r : Value × AH) : Prop :=
 (∃ kind l o,gotB bs = some (kind,l) ∧ r.1 = .tuple #[.int .i64 kind,o,.int .i64 0] ∧ Stt prog h.n h r.2 [] [(o,3,crows l)]) ∨
 (gotB bs = none ∧ r.1 = .tuple #[.int .i64 0,.slice none 0 0,.int .i64 4] ∧ Grow h r.2)
theorem f21c {k : Nat} {h : AH} {bs : List Nat} (hb : ∀ x ∈ bs,x < 256) (hl : bs.length ≤ 5000) (hk : 8000 < k) :
  Tl (eInv env (k + 7100) (.func 21) #[] #[.string (strB bs)] h) fun r=>GetS h bs r:=by
 rw [F21_call]
 unfold F21
 refine Tl.bind (f36c (k:=k + 5099) hb (by omega) (by omega)) ?_
 rintro ⟨r,h1⟩ (⟨kind,l,z,rest,nv,rv,ho,er,S1⟩ | ⟨ho,kind,z,a,m,c,er,g1⟩)
 rotate_left
 ·simp only at er g1
  subst er
  with_reducible repeat (first | (apply qzV; simp (disch:=omega) only [zA,bzS20.1] <;> rfl) | apply qzT | apply qzF | apply qzG | ((first | apply qzB | apply qzC); simp (disch:=omega) only [zA,bzS20.1] <;> rfl))
  refine Tl.alloc' ((Stt.init (P:=prog) h).call g1) ze66 rfl fun b5 h4 S4 _=>?_
  refine Tl.store' S4 0 rfl sz66 rfl rfl (of_decide_eq_true rfl) fun h5 S5 _=>?_
  with_reducible repeat (first | (apply qzV; simp (disch:=omega) only [zA,bzS20.1] <;> rfl) | apply qzT | apply qzF | apply qzG | ((first | apply qzB | apply qzC); simp (disch:=omega) only [zA,bzS20.1] <;> rfl))
  exact ⟨_,rfl,.inr ⟨by unfold gotB; rw [ho],rfl,S5.grow⟩⟩
 simp only at er S1
 subst er
 obtain ⟨hkd,ec,en,hl4,hrl,hrm⟩:=open_cnt ho
 have hrb : ∀ x ∈ rest,x < 256:=fun x hx=>hb x (hrm x hx)
 have hcl:=cnt_le l
 obtain ⟨a,c,eo,_⟩:=(S1.slV 0 rfl).form
 subst eo
 obtain ⟨a2,c2,eo2,_⟩:=(S1.slV 1 rfl).form
 subst eo2
 with_reducible repeat (first | (apply qzV; simp (disch:=omega) only [zA,bzS20.1] <;> rfl) | apply qzT | apply qzF | apply qzG | ((first | apply qzB | apply qzC); simp (disch:=omega) only [zA,bzS20.1] <;> rfl))
 refine Tl.alloc' S1 ze66 rfl fun b5 h2 S2 _=>?_
 refine Tl.store' S2 0 rfl sz66 rfl rfl (of_decide_eq_true rfl) fun h3 S3 _=>?_
 have S3 : Stt prog h.n h h3 [Op b5 kind (.slice a2 (brows l).length c2) z (.slice a (u8rows rest).length c)] [(.slice a (u8rows rest).length c,1,u8rows rest),(.slice a2 (brows l).length c2,1,brows l)]:=S3
 obtain ⟨_,k3,_,ct,nl⟩:=o_at S3 0 rfl
 rw [ec] at ct
 rw [en] at nl
 have rs3 : h3.cell b5 10 = some (.slice a (u8rows rest).length c):=S3.cell 0 rfl rfl
 /- What comes behind the values. -/
 have fin : ∀ (cs : List CellD) (cv : Value) (h4 : AH) (O : List OS) (i1 : Nat),someB kind l rest = some cs→l.length - cnt l ≤ cs.length→Stt prog h.n h h4 [Op b5 kind (.slice a2 (brows l).length c2) z (.slice a (u8rows rest).length c)] ((cv,3,crows cs) :: O)→O[i1]? = some (.slice a2 (brows l).length c2,1,brows l) →
   Tl (Ev.bnd (pFieldAddr prog 66 (.pointer (some ⟨b5,0,none⟩)) 1) fun x42=>Ev.bnd (pLoad prog 32 x42 h4) fun x43=>Ev.bnd (eInv env (k + 7099) (.func 39) #[] #[x43,.int .i64 ((l.length : Int) - (cnt l : Int))] h4) fun x45=>Ev.bnd (pLen prog #[72] x45.1 x45.2) fun x46 =>
    F21_lrlrrrrrr (eInv env (k + 7099)) (k + 7099) (k + 7099) (.string (strB bs)) (.slice none 0 0) (.pointer (some ⟨b5,0,none⟩)) cv x45.1 x46 (.int .i64 0) x45.2 (fun y0_1 y3_2 y5_3 y7_4 y45 y46 y47 y48 h_5 =>
    Ev.bnd (pFieldAddr prog 66 y5_3 0) fun x66=>Ev.bnd (pLoad prog 3 x66 h_5) fun x67=>Ev.bnd (eInv env (k + 7099) (.func 13) #[] #[x67,y3_2] h_5) fun x69=>Ev.bnd (pExtract x69.1 0) fun x70=>Ev.bnd (pExtract x69.1 1) fun x71 =>
    G21_18 (eInv env (k + 7099)) y0_1 y3_2 y5_3 x70 x71 x69.2 fun y78 h_6=>brV y78 (some (Value.tuple #[.int .i64 0,.slice none 0 0,.int .i64 4],h_6)) (Ev.bnd (pFieldAddr prog 66 y5_3 0) fun x79=>Ev.bnd (pLoad prog 3 x79 h_6) fun x80=>some (Value.tuple #[x80,y3_2,.int .i64 0],h_6)))) fun r=>GetS h bs r:=by
  intro cs cv h4 O i1 hs hcs S4 hO
  have n4 : h4.cell b5 1 = some (.slice a2 (brows l).length c2):=S4.cell 0 rfl rfl
  with_reducible repeat (first | (apply qzV; simp (disch:=omega) only [zA,bzS20.1,n4] <;> rfl) | apply qzT | apply qzF | apply qzG | ((first | apply qzB | apply qzC); simp (disch:=omega) only [zA,bzS20.1,n4] <;> rfl))
  refine Tl.callO S4 (f39c (k:=k + 7096) (S4.sl1 (f:=bv) (i1 + 1) hO) (by omega) (by omega) _) fun sv h5 S5 g5=>?_
  have es : spreadV l ((l.length : Int) - (cnt l : Int)) = spreadL 0 l:=by unfold spreadV; rw [if_pos rfl]
  rw [es] at S5
  have hsl:=spreadL_len l 0
  have lv : ∀ h' : AH,pLen prog #[72] sv h' = some (.int .i64 l.length):=fun h'=>by
   have:=Sl1.len (S5.sl1 (f:=iv) 0 rfl) u72 (h':=h')
   rw [hsl] at this
   exact this
  with_reducible repeat (first | (apply qzV; simp (disch:=omega) only [zA,bzS20.1,lv] <;> rfl) | apply qzT | apply qzF | apply qzG | ((first | apply qzB | apply qzC); simp (disch:=omega) only [zA,bzS20.1,lv] <;> rfl))
  refine f21_loop (i:=0) (cs:=cs) hl4 hcs l.length (by omega) (by omega) (S5.nil 3) fun h6 ov y1 y2 S6=>?_
  have k6 : h6.cell b5 0 = some (.int .i64 kind):=S6.cell 0 rfl rfl
  have F6 : Cells h6 ov (fillF l cs):=(S6.slV 0 rfl).z
  have hfl:=fill_len l cs
  with_reducible repeat (first | (apply qzV; simp (disch:=omega) only [zA,bzS20.1,k6] <;> rfl) | apply qzT | apply qzF | apply qzG | ((first | apply qzB | apply qzC); simp (disch:=omega) only [zA,bzS20.1,k6] <;> rfl))
  with_reducible refine Tl.call' S6 (f13c (k:=k + 6398) kind F6 (by omega) (by omega)) fun h7 S7 g7=>?_
  have k7 : h7.cell b5 0 = some (.int .i64 kind):=S7.cell 0 rfl rfl
  by_cases q1 : segE kind (fillF l cs) = 0
  ·rw [q1,if_pos rfl]
   by_cases q2 : segB kind (fillF l cs) = bs
   ·have ne : ∀ x y,pBin prog .neq 9 x y (.string (strB (segB kind (fillF l cs)))) (.string (strB bs)) = some (.bool false):=fun x y=>by rw [bin_neq_string,q2]; simp
    with_reducible repeat (first | (apply qzV; simp (disch:=omega) only [zA,bzS20.1,ne,k7] <;> rfl) | apply qzT | apply qzF | apply qzG | ((first | apply qzB | apply qzC); simp (disch:=omega) only [zA,bzS20.1,ne,k7] <;> rfl))
    exact ⟨_,rfl,.inl ⟨kind,fillF l cs,ov,by unfold gotB; rw [ho]; simp only; rw [hs]; simp only; rw [if_pos ⟨q1,q2⟩],rfl,(dropAllS S7).keepO (.cons_cons _ (List.nil_sublist _))⟩⟩
   ·have ne : ∀ x y,pBin prog .neq 9 x y (.string (strB (segB kind (fillF l cs)))) (.string (strB bs)) = some (.bool true):=fun x y=>by
     rw [bin_neq_string,decide_eq_false fun z=>q2 (strB_inj (segB_256 hkd _) hb z)]
     rfl
    with_reducible repeat (first | (apply qzV; simp (disch:=omega) only [zA,bzS20.1,ne] <;> rfl) | apply qzT | apply qzF | apply qzG | ((first | apply qzB | apply qzC); simp (disch:=omega) only [zA,bzS20.1,ne] <;> rfl))
    exact ⟨_,rfl,.inr ⟨by unfold gotB; rw [ho]; simp only; rw [hs]; simp only; rw [if_neg fun z=>q2 z.2],rfl,S7.grow⟩⟩
  ·with_reducible repeat (first | (apply qzV; simp (disch:=omega) only [zA,bzS20.1] <;> rfl) | apply qzT | apply qzF | apply qzG | ((first | apply qzB | apply qzC); simp (disch:=omega) only [zA,bzS20.1] <;> rfl))
   exact ⟨_,rfl,.inr ⟨by unfold gotB; rw [ho]; simp only; rw [hs]; simp only; rw [if_neg fun z=>q1 z.1],rfl,S7.grow⟩⟩
 by_cases q : l.length - cnt l = 0
 ·have es : someB kind l rest = some []:=by unfold someB; rw [if_pos q]
  with_reducible repeat (first | (apply qzV; simp (disch:=omega) only [zA,bzS20.1,ct,nl] <;> rfl) | apply qzT | apply qzF | apply qzG | ((first | apply qzB | apply qzC); simp (disch:=omega) only [zA,bzS20.1,ct,nl] <;> rfl))
  unfold F21_rlrrrrr
  with_reducible repeat (first | (apply qzV; simp (disch:=omega) only [zA,bzS20.1] <;> rfl) | apply qzT | apply qzF | apply qzG | ((first | apply qzB | apply qzC); simp (disch:=omega) only [zA,bzS20.1] <;> rfl))
  exact fin [] _ h3 _ 1 es (by simp; omega) (S3.nil 3) rfl
 ·have ei : ((l.length : Int) - (cnt l : Int)) = ((l.length - cnt l : Nat) : Int):=by omega
  have es : someB kind l rest = backB kind rest (l.length - cnt l):=by unfold someB; rw [if_neg q]
  with_reducible repeat (first | (apply qzV; simp (disch:=omega) only [zA,bzS20.1,ct,nl] <;> rfl) | apply qzT | apply qzF | apply qzG | ((first | apply qzB | apply qzC); simp (disch:=omega) only [zA,bzS20.1,ct,nl] <;> rfl))
  unfold F21_rlrrrrr
  with_reducible repeat (first | (apply qzV; simp (disch:=omega) only [zA,bzS20.1,k3] <;> rfl) | apply qzT | apply qzF | apply qzG | ((first | apply qzB | apply qzC); simp (disch:=omega) only [zA,bzS20.1,k3] <;> rfl))
  with_reducible refine Tl.call' S3 (f28c (k:=k + 7097) kind h3) fun h4 S4 g4=>?_
  have rs4 : h4.cell b5 10 = some (.slice a (u8rows rest).length c):=S4.cell 0 rfl rfl
  with_reducible repeat (first | (apply qzV; simp (disch:=omega) only [zA,bzS20.1,rs4] <;> rfl) | apply qzT | apply qzF | apply qzG | ((first | apply qzB | apply qzC); simp (disch:=omega) only [zA,bzS20.1,rs4] <;> rfl))
  rw [ei]
  refine Tl.bind (segback_c (k:=k + 97) hkd (S4.sl1 (f:=u8v) 0 rfl) hrb (by omega) (l.length - cnt l) (by omega) (by omega)) ?_
  rintro ⟨r,h5⟩ (⟨cs,o,hk5,er,X⟩ | ⟨hk5,er,g5⟩)
  ·simp only at er X
   subst er
   have S5:=S4.join X
   with_reducible repeat (first | (apply qzV; simp (disch:=omega) only [zA,bzS20.1] <;> rfl) | apply qzT | apply qzF | apply qzG | ((first | apply qzB | apply qzC); simp (disch:=omega) only [zA,bzS20.1] <;> rfl))
   with_reducible refine Tl.chk ?_ ?_
   ·simp only [ld33,rs3,rs4,sameO_some,sameSl,Bool.and_self,Bool.not_true,Bool.or_true,Bool.true_and,Bool.false_or]
   with_reducible repeat (first | (apply qzV; simp (disch:=omega) only [zA,bzS20.1] <;> rfl) | apply qzT | apply qzF | apply qzG | ((first | apply qzB | apply qzC); simp (disch:=omega) only [zA,bzS20.1] <;> rfl))
   rw [← ei]
   exact fin cs o h5 _ 1 (by rw [es,hk5]) (by have:=backB_len hk5; omega) S5 rfl
  ·simp only at er g5
   subst er
   with_reducible repeat (first | (apply qzV; simp (disch:=omega) only [zA,bzS20.1] <;> rfl) | apply qzT | apply qzF | apply qzG | ((first | apply qzB | apply qzC); simp (disch:=omega) only [zA,bzS20.1] <;> rfl))
   with_reducible refine Tl.chk ?_ ?_
   ·simp only [ld33,rs3,rs4,sameO_some,sameSl,Bool.and_self,Bool.not_true,Bool.or_true,Bool.true_and,Bool.false_or]
   with_reducible repeat (first | (apply qzV; simp (disch:=omega) only [zA,bzS20.1] <;> rfl) | apply qzT | apply qzF | apply qzG | ((first | apply qzB | apply qzC); simp (disch:=omega) only [zA,bzS20.1] <;> rfl))
   exact ⟨_,rfl,.inr ⟨by unfold gotB; rw [ho]; simp only; rw [es,hk5],rfl,S4.grow.trans g5⟩⟩
end Go.Proofs.YtghelamfaaakcaaGreat.Sh
/- Texts that were put are got. No program's step in sight. -/
set_option linter.unusedVariables false
set_option linter.unusedSimpArgs false
set_option maxRecDepth 100000
namespace Go.Proofs.YtghelamfaaakcaaGreat.Sh
open Go Go.RowKit Go.Proofs.Ev
theorem strB_bytesN (s : ByteArray) : strB (bytesN s) = s:=by
 unfold strB bytesN
 rw [List.map_map]
 have e : (UInt8.ofNat ∘ UInt8.toNat) = id:=funext fun x=>by simp
 rw [e,List.map_id]
theorem readT_put : ∀ (l : List ByteArray) (rest : List Nat),(∀ x ∈ l,x.size ≤ 65536)→readT l.length (l.flatMap textP ++ rest) = some (l,rest):=by
 intro l
 induction l with
 | nil=>intro rest _; rfl
 | cons s l ih =>
  intro rest h
  have hs:=h s (List.mem_cons_self ..)
  have i:=ih rest fun x hx=>h x (List.mem_cons_of_mem _ hx)
  rw [List.flatMap_cons,List.length_cons,readT]
  have e : textP s ++ l.flatMap textP ++ rest = pvarN s.size ++ (bytesN s ++ (l.flatMap textP ++ rest)):=by
   unfold textP
   simp
  rw [e,dec_pvar _ s.size (i:=0) (acc:=0) (.inl rfl) (by simp; omega)]
  simp only [Nat.zero_add,Nat.mul_zero,Nat.pow_zero,Nat.mul_one]
  rw [if_neg (by rw [List.length_append,bytesN_len]; omega),List.take_left' (bytesN_len s),List.drop_left' (bytesN_len s),i,strB_bytesN]
  rfl
theorem getT_plain {l : List ByteArray} (h : mayT l = true) : getT (plainT l) = some l:=by
 obtain ⟨h1,h2⟩:=mayT_spec.1 h
 have hr:=readT_put l [] h2
 rw [List.append_nil] at hr
 unfold getT
 conv=>lhs; unfold plainT
 simp only
 rw [dec_pvar _ l.length (i:=0) (acc:=0) (.inl rfl) (by simp; omega)]
 simp only [Nat.zero_add,Nat.mul_zero,Nat.pow_zero,Nat.mul_one]
 rw [if_neg (by omega)]
 unfold formT putF
 simp only [if_true]
 rw [hr]
 simp only [Option.map_some]
 rw [if_pos]
 unfold plainG
 rw [h]
 rfl
theorem lookT_pos (w : List ByteArray) : ∀ l : List ByteArray,(∀ x ∈ l,x ∈ w)→lookT w (l.map (posS w)) = some l:=by
 intro l
 induction l with
 | nil=>intro _; rfl
 | cons s l ih =>
  intro h
  rw [List.map_cons,lookT,posS_at (h s (List.mem_cons_self ..))]
  simp only
  rw [ih fun x hx=>h x (List.mem_cons_of_mem _ hx)]
  rfl
theorem getT_dict {l : List ByteArray} (h : mayT l = true) : getT (dictT l) = some l:=by
 obtain ⟨h1,h2⟩:=mayT_spec.1 h
 have hwl:=wordsB_len l
 have hal : (atW l).length = l.length:=List.length_map ..
 have ha64 : ∀ x ∈ atW l,x < 18446744073709551616:=fun x hx=>by have:=atW_lt x hx; omega
 have hW:=Pk.width64 ha64
 obtain ⟨t1,t2⟩:=Pk.there (l:=atW l) (W:=widW l) (by omega) hW (Nat.le_refl _)
 rw [hal] at t1 t2
 have hr:=readT_put (wordsB l) (widW l :: putN (widW l) (atW l)) fun x hx=>h2 x (wordsB_mem.1 hx)
 have e : dictT l = 2 :: (pvarN l.length ++ (pvarN (wordsB l).length ++ ((wordsB l).flatMap textP ++ (widW l :: putN (widW l) (atW l))))):=by
  unfold dictT
  simp
 have hput : putF 2 l = dictT l:=by
  unfold putF dictG
  rw [h]
  rfl
 have hw : wordsT l.length (pvarN (wordsB l).length ++ ((wordsB l).flatMap textP ++ (widW l :: putN (widW l) (atW l)))) = some l:=by
  unfold wordsT
  rw [dec_pvar _ (wordsB l).length (i:=0) (acc:=0) (.inl rfl) (by simp; omega)]
  simp only [Nat.zero_add,Nat.mul_zero,Nat.pow_zero,Nat.mul_one]
  rw [if_neg (by omega),hr]
  simp only
  rw [if_neg (fun q=>q t1),t2]
  exact lookT_pos (wordsB l) l fun x hx=>wordsB_mem.2 hx
 rw [← hput]
 conv=>lhs; rw [hput,e]
 unfold getT
 simp only
 rw [dec_pvar _ l.length (i:=0) (acc:=0) (.inl rfl) (by simp; omega)]
 simp only [Nat.zero_add,Nat.mul_zero,Nat.pow_zero,Nat.mul_one]
 rw [if_neg (by omega)]
 unfold formT
 rw [if_neg (by omega),if_pos rfl,hw]
 simp only
 rw [if_pos (by rw [hput,e])]
theorem getT_put {l : List ByteArray} (h : mayT l = true) : getT (putT l) = some l:=by
 unfold putT
 rw [if_pos h]
 split
 ·exact getT_dict h
 ·exact getT_plain h
end Go.Proofs.YtghelamfaaakcaaGreat.Sh
/- What is put in any form is got; columns held against each other. -/
set_option linter.unusedVariables false
set_option linter.unusedSimpArgs false
set_option maxRecDepth 100000
namespace Go.Proofs.YtghelamfaaakcaaGreat.Sh
open Go Go.RowKit Go.Proofs.Ev
theorem foldmin_spec (l : List Int) : ∀ (a : Int),(∀ x ∈ a :: l,l.foldl (fun m x=>if x < m then x else m) a ≤ x) ∧ l.foldl (fun m x=>if x < m then x else m) a ∈ a :: l:=by
 induction l with
 | nil=>intro a; simp
 | cons c l ih =>
  intro a
  simp only [List.foldl_cons]
  have hm : ∃ m,(if c < a then c else a) = m ∧ m ≤ a ∧ m ≤ c ∧ (m = a ∨ m = c):=by
   refine ⟨_,rfl,?_⟩
   by_cases q : c < a
   ·rw [if_pos q]; exact ⟨by omega,by omega,.inr rfl⟩
   ·rw [if_neg q]; exact ⟨by omega,by omega,.inl rfl⟩
  obtain ⟨m,em,ha,hc,hor⟩:=hm
  rw [em]
  obtain ⟨h1,h2⟩:=ih m
  have h3:=h1 m (by simp)
  refine ⟨fun x hx=>?_,?_⟩
  ·rcases List.mem_cons.1 hx with rfl | hx
   ·omega
   ·rcases List.mem_cons.1 hx with rfl | hx
    ·omega
    ·exact h1 x (by simp [hx])
  ·rcases List.mem_cons.1 h2 with h2 | h2
   ·rw [h2]
    rcases hor with rfl | rfl <;> simp
   ·simp [h2]
theorem minI_spec {l : List Int} (hne : l ≠ []) : (∀ x ∈ l,minI l ≤ x) ∧ minI l ∈ l:=by
 cases l with
 | nil=>exact absurd rfl hne
 | cons a l=>exact foldmin_spec l a
theorem le8 {z : Nat} (hz : z < 18446744073709551616) : ofB (le z 0 8) = z:=by
 rw [ofB_le]
 have h8 : (256 : Nat) ^ 8 = 18446744073709551616:=by decide
 simp only [Nat.mul_zero,Nat.pow_zero,Nat.div_one,h8]
 exact Nat.mod_eq_of_lt hz
theorem le8_take (z : Nat) (r : List Nat) : (le z 0 8 ++ r).take 8 = le z 0 8:=List.take_left' (le_len _ _ _)
theorem le8_drop (z : Nat) (r : List Nat) : (le z 0 8 ++ r).drop 8 = r:=List.drop_left' (le_len _ _ _)
theorem plain_back : ∀ (l : List Int),(∀ z ∈ l,i64ok z)→plainGI l.length (l.flatMap fun z=>le (toU z) 0 8) = some l:=by
 intro l
 induction l with
 | nil=>intro _; rfl
 | cons z l ih =>
  intro h
  rw [List.flatMap_cons,List.length_cons,plainGI,if_neg (by simp [le_len]),le8_drop,le8_take,ih fun x hx=>h x (by simp [hx]),le8 (toU_lt z),toI_toU (h z (by simp))]
  rfl
def unrun (rs : List (Nat × Int)) : List Int:=rs.flatMap fun r=>List.replicate r.1 r.2
theorem unrun_rli (l : List Int) : ∀ (b : Int) (n : Nat),unrun (rli b n l) = List.replicate n b ++ l:=by
 induction l with
 | nil=>intro b n; simp [rli,unrun]
 | cons c l ih =>
  intro b n
  unfold rli
  split
  ·rename_i q
   rw [ih,q,List.replicate_succ']
   simp
  ·have:=ih c 1
   unfold unrun at this ⊢
   rw [List.flatMap_cons,this]
   simp
theorem unrun_runs (l : List Int) : unrun (runsI l) = l:=by
 cases l with
 | nil=>rfl
 | cons b l=>rw [runsI,unrun_rli]; simp
theorem rli_pos (l : List Int) : ∀ (b : Int) (n : Nat),0 < n→∀ r ∈ rli b n l,0 < r.1:=by
 induction l with
 | nil=>intro b n hn r hr; simp [rli] at hr; subst hr; exact hn
 | cons c l ih =>
  intro b n hn r hr
  unfold rli at hr
  split at hr
  ·exact ih b (n + 1) (by omega) r hr
  ·rcases List.mem_cons.1 hr with rfl | hr
   ·exact hn
   ·exact ih c 1 (by omega) r hr
theorem runsI_pos (l : List Int) : ∀ r ∈ runsI l,0 < r.1:=by
 cases l with
 | nil=>intro r hr; cases hr
 | cons b l=>exact rli_pos l b 1 (by omega)
theorem runs_back : ∀ (rs : List (Nat × Int)) (f : Nat),(unrun rs).length ≤ f→(unrun rs).length ≤ 100000→(∀ r ∈ rs,0 < r.1)→(∀ z ∈ unrun rs,i64ok z)→runsG f (unrun rs).length (rs.flatMap runB) = some (unrun rs):=by
 intro rs
 induction rs with
 | nil =>
  intro f _ _ _ _
  cases f <;> rfl
 | cons r rs ih =>
  intro f hf hl hp hz
  have hr:=hp r (by simp)
  have hu : unrun (r :: rs) = List.replicate r.1 r.2 ++ unrun rs:=rfl
  have hlen : (unrun (r :: rs)).length = r.1 + (unrun rs).length:=by rw [hu]; simp
  obtain ⟨f,rfl⟩ : ∃ q,f = q + 1:=⟨f - 1,by omega⟩
  have hzr : i64ok r.2:=hz r.2 (by rw [hu]; simp; left; omega)
  have hd : dec 0 0 (List.flatMap runB (r :: rs)) = some (r.1,le (toU r.2) 0 8 ++ rs.flatMap runB):=by
   have:=dec_pvar (le (toU r.2) 0 8 ++ rs.flatMap runB) r.1 (i:=0) (acc:=0) (.inl rfl) (by simp; omega)
   rw [List.flatMap_cons,runB,List.append_assoc,this]
   simp
  rw [runsG,if_neg (by omega),hd]
  simp only
  rw [if_neg (by simp [le_len]; omega),le8_drop,le8_take,show (unrun (r :: rs)).length - r.1 = (unrun rs).length by omega,
   ih f (by omega) (by omega) (fun x hx=>hp x (by simp [hx])) (fun z hz'=>hz z (by rw [hu]; simp [hz'])),le8 (toU_lt r.2),toI_toU hzr]
  rfl
theorem toI_more {z m : Int} (hz : i64ok z) (hm : i64ok m) : toI ((toU m + toU (z - m)) % 18446744073709551616) = z:=by
 have : (toU m + toU (z - m)) % 18446744073709551616 = toU z:=by
  unfold toU
  omega
 rw [this,toI_toU hz]
theorem pack_back (l : List Int) (hl : l.length ≤ 4096) (hok : ∀ z ∈ l,i64ok z) (hm : i64ok (minI l)) : packG l.length (le (toU (minI l)) 0 8 ++ (widI l :: putN (widI l) (moreI l))) = some l:=by
 have hw:=widI_le l
 have ml : (moreI l).length = l.length:=by simp [moreI]
 obtain ⟨t1,t2⟩:=Pk.there (l:=moreI l) (W:=widI l) (by omega) hw (Nat.le_refl _)
 rw [ml] at t1 t2
 have d9 : (le (toU (minI l)) 0 8 ++ (widI l :: putN (widI l) (moreI l))).drop 9 = putN (widI l) (moreI l):=by
  rw [show (9 : Nat) = 8 + 1 by rfl,← List.drop_drop,le8_drop]
  rfl
 have o1 : ofB ((widI l :: putN (widI l) (moreI l)).take 1) = widI l:=by simp [ofB]
 unfold packG
 rw [if_neg (by simp [le_len]; omega),d9,le8_drop,o1,if_neg (fun h=>h t1),t2,le8_take,le8 (toU_lt _)]
 congr 1
 unfold moreI
 rw [List.map_map]
 conv=>rhs; rw [← List.map_id l]
 exact List.map_congr_left fun z hz=>toI_more (hok z hz) hm
theorem get_form {kd : Nat} (h3 : kd = 1 ∨ kd = 2 ∨ kd = 3) (l : List Int) (hl : l.length ≤ 4096) (hok : ∀ z ∈ l,i64ok z) (hm : i64ok (minI l)) : getI (formB kd l) = some l:=by
 have key : ∀ body,formB kd l = headB kd l.length ++ body→kindG kd l.length body = some l→getI (formB kd l) = some l:=by
  intro body e hk
  have hd:=dec_pvar body l.length (i:=0) (acc:=0) (.inl rfl) (by simp; omega)
  simp only [Nat.mul_zero,Nat.pow_zero,Nat.mul_one,Nat.zero_add] at hd
  rw [e]
  unfold getI headB
  simp only [List.cons_append]
  rw [hd]
  simp only
  rw [if_neg (by omega),if_pos h3,hk]
  simp only
  rw [e]
  unfold headB
  rw [List.cons_append,if_pos rfl]
 rcases h3 with rfl | rfl | rfl
 ·exact key _ rfl (plain_back l hok)
 ·refine key _ rfl ?_
  have:=runs_back (runsI l) l.length (by rw [unrun_runs]; exact Nat.le_refl _) (by rw [unrun_runs]; omega) (runsI_pos l) (by rw [unrun_runs]; exact hok)
  rw [unrun_runs] at this
  exact this
 ·refine key (le (toU (minI l)) 0 8 ++ (widI l :: putN (widI l) (moreI l))) (by unfold formB packB; simp) ?_
  exact pack_back l hl hok hm
theorem putI_form (l : List Int) : ∃ kd,(kd = 1 ∨ kd = 2 ∨ kd = 3) ∧ putI l = formB kd l:=by
 unfold putI
 by_cases q1 : (runsB l).length < (plainB l).length
 ·by_cases q2 : (packB l).length < (runsB l).length
  ·exact ⟨3,by omega,by simp [q1,q2,formB]⟩
  ·exact ⟨2,by omega,by simp [q1,q2,formB]⟩
 ·by_cases q2 : (packB l).length < (plainB l).length
  ·exact ⟨3,by omega,by simp [q1,q2,formB]⟩
  ·exact ⟨1,by omega,by simp [q1,q2,formB]⟩
theorem minI_ok {l : List Int} (h : ∀ z ∈ l,i64ok z) : i64ok (minI l):=by
 by_cases q : l = []
 ·subst q
  have e : minI [] = 0:=rfl
  rw [e]; unfold i64ok; omega
 ·exact h _ (minI_spec q).2
end Go.Proofs.YtghelamfaaakcaaGreat.Sh
/- Segments that are put are got. No program's step in sight; cells held against each other. -/
set_option linter.unusedVariables false
set_option linter.unusedSimpArgs false
set_option maxRecDepth 100000
namespace Go.Proofs.YtghelamfaaakcaaGreat.Sh
open Go Go.RowKit Go.Proofs.Ev Go.Lib
open Tryz (prog)
def bzS21:=PLift.up (ai @ld3 (ai @ld31 (ai @aggC (@Nat.add_zero))))
theorem map_self {α : Type} {f : α→α} {l : List α} (h : ∀ x ∈ l,f x = x) : l.map f = l:=by
 conv=>rhs; rw [← List.map_id l]
 exact List.map_congr_left h
theorem back_put {kind : Int} (hk : 1 ≤ kind ∧ kind ≤ 3) {V : List CellD} (hl : V.length ≤ 4096) (hg : ∀ c ∈ V,goodC kind c) (hi : ∀ c ∈ V,i64in c.i) : backB kind (cellsB kind V) V.length = some V:=by
 have h : kind = 1 ∨ kind = 2 ∨ kind = 3:=by omega
 rcases h with rfl | rfl | rfl
 ·show bkN (putI (valsN V)) V.length = some V
  have e : gtN (putI (valsN V)) V.length = some (valsN V):=by
   unfold gtN
   obtain ⟨kd,h3,e⟩:=putI_form (valsN V)
   have hok : ∀ z ∈ valsN V,i64ok z:=fun z hz=>by
    obtain ⟨c,hc,rfl⟩:=List.mem_map.1 hz
    exact hi c hc
   rw [e]
   exact get_form h3 _ (by simp [valsN]; omega) hok (minI_ok hok)
  unfold bkN
  rw [e]
  simp only
  rw [if_pos (by simp [valsN])]
  unfold valsN
  rw [List.map_map]
  exact congrArg some (map_self fun c hc=>mkN_good (hg c hc))
 ·show bkT (Pk.putL (valsT V) 1) V.length = some V
  have h2 : ∀ c ∈ V,toU c.i < 2:=fun c hc=>by
   have:=good_bool (hg c hc)
   unfold toU
   omega
  have hw : Pk.widthN (valsT V) ≤ 1:=(Pk.width_le _ _).2 fun x hx=>by
   obtain ⟨c,hc,rfl⟩:=List.mem_map.1 hx
   have:=h2 c hc
   omega
  have hl2 : (valsT V).length = V.length:=List.length_map ..
  have pe : Pk.putE (valsT V) 1 = 0:=Pk.putE_of (W:=1) (by omega) (by omega) hw
  have pl : Pk.putL (valsT V) 1 = putN 1 (valsT V):=by unfold Pk.putL; rw [if_pos pe]; rfl
  obtain ⟨t1,t2⟩:=Pk.there (l:=valsT V) (W:=1) (by omega) (by omega) hw
  rw [hl2] at t1 t2
  have e : gtT (Pk.putL (valsT V) 1) V.length = some (valsT V):=by
   unfold gtT
   rw [pl]
   have e1 : ((1 : Nat) : Int) = 1:=rfl
   rw [e1] at t1 t2
   rw [if_pos t1,t2]
  unfold bkT
  rw [e]
  simp only
  rw [if_pos hl2]
  unfold valsT
  rw [List.map_map]
  refine congrArg some (map_self fun c hc=>?_)
  have:=mkT_good (hg c hc)
  rw [Nat.mod_eq_of_lt (by have:=h2 c hc; omega)] at this
  exact this
 ·show bkW (putT (valsW V)) V.length = some V
  have hm : mayT (valsW V) = true:=by
   rw [mayT_spec]
   refine ⟨by simp [valsW]; omega,fun x hx=>?_⟩
   obtain ⟨c,hc,rfl⟩:=List.mem_map.1 hx
   exact cellE_size (hg c hc).2
  have e : gtW (putT (valsW V)) V.length = some (valsW V):=getT_put hm
  unfold bkW
  rw [e]
  simp only
  rw [if_pos (by simp [valsW])]
  unfold valsW
  rw [List.map_map]
  exact congrArg some (map_self fun c hc=>mkW_good (hg c hc))
theorem fill_back : ∀ {l : List CellD},(∀ c ∈ l,c.k = 0→c = c0)→fillF (flg l) (vals l) = l
 | [],_=>rfl
 | c :: l,h=>by
  have ih:=fill_back (l:=l) fun x hx=>h x (List.mem_cons_of_mem _ hx)
  unfold flg vals at ih ⊢
  rw [List.map_cons,List.filter_cons]
  by_cases q : c.k = 0
  ·rw [decide_eq_true q]
   simp only [q,bne_self_eq_false,Bool.false_eq_true,if_false,fillF]
   rw [ih,h c (List.mem_cons_self ..) q]
  ·rw [decide_eq_false q]
   have : (c.k != 0) = true:=by simpa using q
   simp only [this,if_true,fillF]
   rw [ih]
theorem null_c0 {c : CellD} (h : cellE c = 0) (hk : c.k = 0) : c = c0:=by
 have:=cellE_bare h
 unfold bare at this
 rw [if_pos hk] at this
 exact this.symm
theorem get_putS {kind : Int} {l : List CellD} (h : segE kind l = 0) (hi : ∀ c ∈ l,i64in c.i) : gotB (segB kind l) = some (kind,l):=by
 obtain ⟨hk,hl,hall⟩:=segE_zero.1 h
 have ho:=open_put h hi []
 rw [List.append_nil,List.append_nil] at ho
 have hc:=cnt_flg l
 have hfl : (flg l).length = l.length:=List.length_map ..
 have hvl:=vals_le l
 have hs : someB kind (flg l) (restB kind (vals l)) = some (vals l):=by
  unfold someB restB
  by_cases q : vals l = []
  ·rw [q] at hc ⊢
   rw [if_pos (by simp at hc; omega)]
  ·have:=List.length_pos_iff.2 q
   rw [if_neg (by omega),if_neg q,show (flg l).length - cnt (flg l) = (vals l).length by omega]
   exact back_put hk (by omega) (good_vals hall) fun c hc=>hi c (List.mem_filter.1 hc).1
 have hf:=fill_back (l:=l) fun c hc q=>null_c0 (hall c hc).1 q
 unfold gotB
 rw [ho]
 simp only
 rw [hs]
 simp only
 rw [hf,if_pos ⟨h,rfl⟩]
theorem gotB_some {bs : List Nat} {kind : Int} {l : List CellD} (h : gotB bs = some (kind,l)) : segE kind l = 0 ∧ segB kind l = bs:=by
 unfold gotB at h
 split at h
 ·cases h
 ·split at h
  ·cases h
  ·split at h
   ·rename_i q
    simp only [Option.some.injEq,Prod.mk.injEq] at h
    obtain ⟨rfl,rfl⟩:=h
    exact q
   ·cases h
/-! ### 'Same' -/
theorem f22_loop {β : Type} {inv : Inv} {k : Nat} {Q : β→Prop} {h : AH} {v w : Value} {l m : List CellD} (A : Cells h v l) (B : Cells h w m) (hlm : l.length = m.length) (hl : l.length ≤ 2 ^ 40) {ke0 : Value→Value→Value→Value→AH→Option β} {kr : Value→AH→Option β} (n : Nat) :
  ∀ {i j : Nat},i + n = l.length→n < j→(l.drop i = m.drop i→∀ y1 y2,Tl (ke0 v w y1 y2 h) Q)→(l.drop i ≠ m.drop i→Tl (kr (.bool false) h) Q)→Tl (F22_lrlrr inv k j v w (.int .i64 i) h ke0 kr) Q:=by
 have hv : ∀ h' : AH,pLen prog #[22] v h' = some (.int .i64 l.length):=fun h'=>A.len
 induction n with
 | zero =>
  intro i j hi hj hk hr
  obtain ⟨j,rfl⟩ : ∃ q,j = q + 1:=⟨j - 1,by omega⟩
  simp only [F22_lrlrr]
  with_reducible repeat (first | (apply qzV; simp (disch:=omega) only [zA,bzS21.1,hv] <;> rfl) | apply qzT | apply qzF | (apply qzB; simp (disch:=omega) only [zA,bzS21.1,hv] <;> rfl))
  rw [List.drop_eq_nil_of_le (by omega),List.drop_eq_nil_of_le (by omega)] at hk
  exact hk rfl _ _
 | succ n ih =>
  intro i j hi hj hk hr
  obtain ⟨j,rfl⟩ : ∃ q,j = q + 1:=⟨j - 1,by omega⟩
  obtain ⟨x,ex⟩ : ∃ x,l[i]? = some x:=⟨_,List.getElem?_eq_getElem (by omega)⟩
  obtain ⟨y,ey⟩ : ∃ y,m[i]? = some y:=⟨_,List.getElem?_eq_getElem (by omega)⟩
  obtain ⟨b1,o1,hp1,hr1⟩:=A.at_ ex
  obtain ⟨b2,o2,hp2,hr2⟩:=B.at_ ey
  have e : (i : Int) + 1 = ((i + 1 : Nat) : Int):=by omega
  rw [drop_at ex,drop_at ey] at hk hr
  simp only [F22_lrlrr]
  by_cases q : x = y
  ·have hq : ∀ ox oy,pBin prog .neq 31 ox oy x.v y.v = some (.bool false):=fun ox oy=>by rw [neqC,q]; simp
   with_reducible repeat (first | (apply qzV; simp (disch:=omega) only [zA,bzS21.1,hv,hp1,hr1,hp2,hr2,hq] <;> rfl) | apply qzT | apply qzF | (apply qzB; simp (disch:=omega) only [zA,bzS21.1,hv,hp1,hr1,hp2,hr2,hq] <;> rfl))
   rw [e]
   exact ih (by omega) (by omega) (fun h=>hk (by rw [q,h])) (fun h=>hr (fun h2=>h (List.cons.inj h2).2))
  ·have hq : ∀ ox oy,pBin prog .neq 31 ox oy x.v y.v = some (.bool true):=fun ox oy=>by rw [neqC,decide_eq_false q]; rfl
   with_reducible repeat (first | (apply qzV; simp (disch:=omega) only [zA,bzS21.1,hv,hp1,hr1,hp2,hr2,hq] <;> rfl) | apply qzT | apply qzF | (apply qzB; simp (disch:=omega) only [zA,bzS21.1,hv,hp1,hr1,hp2,hr2,hq] <;> rfl))
   exact hr (fun h2=>q (List.cons.inj h2).1)
theorem f22c {k : Nat} {h : AH} {v w : Value} {l m : List CellD} (A : Cells h v l) (B : Cells h w m) (hl : l.length ≤ 2 ^ 40) (hm : m.length ≤ 2 ^ 40) (hk : l.length < k) :
  eInv env (k + 1) (.func 22) #[] #[v,w] h = some (.bool (decide (l = m)),h):=by
 have T : Tl (F22 (eInv env k) k v w h) fun r=>r = (.bool (decide (l = m)),h):=by
  unfold F22
  have hv : ∀ h' : AH,pLen prog #[22] v h' = some (.int .i64 l.length):=fun h'=>A.len
  have hw : ∀ h' : AH,pLen prog #[22] w h' = some (.int .i64 m.length):=fun h'=>B.len
  by_cases q : l.length = m.length
  ·with_reducible repeat (first | (apply qzV; simp (disch:=omega) only [zA,bzS21.1,hv,hw] <;> rfl) | apply qzT | apply qzF | (apply qzB; simp (disch:=omega) only [zA,bzS21.1,hv,hw] <;> rfl))
   refine f22_loop A B q (by omega) l.length (i:=0) (by omega) (by omega) (fun q2 y1 y2=>⟨_,rfl,?_⟩) (fun q2=>⟨_,rfl,?_⟩)
   ·rw [List.drop_zero,List.drop_zero] at q2
    rw [decide_eq_true q2]
   ·rw [List.drop_zero,List.drop_zero] at q2
    rw [decide_eq_false q2]
  ·have q2 : ¬ l = m:=fun z=>q (by rw [z])
   rw [decide_eq_false q2]
   with_reducible repeat (first | (apply qzV; simp (disch:=omega) only [zA,bzS21.1,hv,hw] <;> rfl) | apply qzT | apply qzF | (apply qzB; simp (disch:=omega) only [zA,bzS21.1,hv,hw] <;> rfl))
   exact ⟨_,rfl,rfl⟩
 obtain ⟨r,h1,h2⟩:=T
 rw [F22_call,h1,h2]
end Go.Proofs.YtghelamfaaakcaaGreat.Sh
/- The document's comparison of cells; rows of rows, which of them are light. -/
set_option linter.unusedVariables false
set_option linter.unusedSimpArgs false
set_option maxRecDepth 100000
namespace Go.Proofs.YtghelamfaaakcaaGreat.Sh
open Go Go.RowKit Go.Proofs.Ev Go.Lib
open Tryz (prog)
theorem bytesLess_cmp : ∀ a b : List UInt8,Op.bytesLess a b = decide (compareBytes a b < 0)
 | [],[]=>rfl
 | [],_ :: _=>rfl
 | _ :: _,[]=>rfl
 | a :: x,b :: y=>by
  unfold Op.bytesLess compareBytes
  by_cases h1 : a < b
  ·simp [h1]
  ·by_cases h2 : b < a
   ·have : (a == b) = false:=by
     rw [beq_eq_false_iff_ne]
     rintro rfl
     exact absurd h2 h1
    simp [h1,h2,this]
   ·have : (a == b) = true:=by
     rw [beq_iff_eq]
     rw [UInt8.lt_iff_toNat_lt] at h1 h2
     exact UInt8.toNat_inj.1 (by omega)
    simp [h1,h2,this,bytesLess_cmp x y]
theorem str_lss {x y : Operand} {a b : ByteArray} : pBin prog .lss 9 x y (.string a) (.string b) = some (.bool (decide (compareBytes a.data.toList b.data.toList < 0))):=by
 have h1 : pBin prog .lss 9 x y (.string a) (.string b) = some (.bool (Op.bytesLess a.toList b.toList)):=rfl
 rw [h1,ByteArray.toList_eq,ByteArray.toList_eq,bytesLess_cmp]
/-- Rows of rows. -/
def Rows (h : AH) (v : Value) (l : List (List CellD)) : Prop:=∃ vs : List Value,SlZ prog h v 1 (vs.map fun v=>[v]) ∧ All2 (Cells h) vs l
theorem Rows.grow {h h' : AH} {v : Value} {l : List (List CellD)} (S : Rows h v l) (g : Grow h h') : Rows h' v l:=by
 obtain ⟨vs,X,A⟩:=S
 exact ⟨vs,X.grow g,A.mono fun _ _ h=>h.grow g⟩
end Go.Proofs.YtghelamfaaakcaaGreat.Sh
/- The document's zones: 'Compare', 'Join'. -/
set_option linter.unusedVariables false
set_option linter.unusedSimpArgs false
set_option maxRecDepth 100000
namespace Go.Proofs.YtghelamfaaakcaaGreat.Sh
open Go Go.RowKit Go.Proofs.Ev Go.Lib
open Tryz (prog)
def bzZf:=PLift.up (ai @ld3 (ai @ld2 (ai @ld9 (ai @ld31 (ai @ld38 (ai @fa31_0 (ai @fa31_1 (ai @fa31_2 (ai @fa38_0 (ai @fa38_1 (ai @fa38_2 (ai @fa38_3 (ai @aggC (ai @aggZ (@Nat.add_zero)))))))))))))))
theorem f38c {k : Nat} (a b : CellD) (h : AH) : Tl (eInv env (k + 1) (.func 38) #[] #[a.v,b.v] h) fun r=>r.1 = .int .i64 (a.cmp b) ∧ Grow h r.2:=by
 rw [F38_call]
 unfold F38
 refine Tl.box' (Stt.init h) rfl isC fun b1 h1 S1 _=>?_
 refine Tl.box' S1 rfl isC fun b2 h2 S2 _=>?_
 have S2 : Stt prog h.n h h2 [Cr b2 b,Cr b1 a] []:=S2
 obtain ⟨_,a0,a1,a2⟩:=c_at S2 1 rfl
 obtain ⟨_,c0,c1,c2⟩:=c_at S2 0 rfl
 unfold CellD.cmp cmpI orI
 by_cases k1 : a.k < b.k
 ·rw [if_pos k1,if_neg (by omega)]
  with_reducible repeat (first | (apply qzV; simp (disch:=omega) only [zA,bzZf.1,a0,c0] <;> rfl) | apply qzT | apply qzF | (apply qzB; simp (disch:=omega) only [zA,bzZf.1,a0,c0] <;> rfl))
  exact ⟨_,rfl,rfl,S2.grow⟩
 ·by_cases k2 : b.k < a.k
  ·rw [if_neg k1,if_pos k2,if_neg (by omega)]
   with_reducible repeat (first | (apply qzV; simp (disch:=omega) only [zA,bzZf.1,a0,c0] <;> rfl) | apply qzT | apply qzF | (apply qzB; simp (disch:=omega) only [zA,bzZf.1,a0,c0] <;> rfl))
   exact ⟨_,rfl,rfl,S2.grow⟩
  ·rw [if_neg k1,if_neg k2,if_pos rfl]
   by_cases i1 : a.i < b.i
   ·rw [if_pos i1,if_neg (by omega)]
    with_reducible repeat (first | (apply qzV; simp (disch:=omega) only [zA,bzZf.1,a0,c0,a1,c1] <;> rfl) | apply qzT | apply qzF | (apply qzB; simp (disch:=omega) only [zA,bzZf.1,a0,c0,a1,c1] <;> rfl))
    exact ⟨_,rfl,rfl,S2.grow⟩
   ·by_cases i2 : b.i < a.i
    ·rw [if_neg i1,if_pos i2,if_neg (by omega)]
     with_reducible repeat (first | (apply qzV; simp (disch:=omega) only [zA,bzZf.1,a0,c0,a1,c1] <;> rfl) | apply qzT | apply qzF | (apply qzB; simp (disch:=omega) only [zA,bzZf.1,a0,c0,a1,c1] <;> rfl))
     exact ⟨_,rfl,rfl,S2.grow⟩
    ·rw [if_neg i1,if_neg i2,if_pos rfl]
     have hz:=cb_zero a.s.data.toList b.s.data.toList
     have hne : ∀ x y,pBin prog .neq 9 x y (.string a.s) (.string b.s) = some (.bool (!decide (compareBytes a.s.data.toList b.s.data.toList = 0))):=fun x y=>by
      rw [bin_neq_string]
      congr 3
      refine decide_eq_decide.2 ⟨fun q=>hz.2 (by rw [q]),fun q=>?_⟩
      have:=hz.1 q
      exact ByteArray.ext (Array.ext' this)
     unfold CellD.bytes
     rcases cb_range a.s.data.toList b.s.data.toList with q | q | q
     ·have hn : ∀ x y,pBin prog .neq 9 x y (.string a.s) (.string b.s) = some (.bool true):=fun x y=>by rw [hne,q]; rfl
      have hs : ∀ x y,pBin prog .lss 9 x y (.string a.s) (.string b.s) = some (.bool true):=fun x y=>by rw [str_lss,q]; rfl
      rw [q]
      with_reducible repeat (first | (apply qzV; simp (disch:=omega) only [zA,bzZf.1,a0,c0,a1,c1,a2,c2,hn,hs] <;> rfl) | apply qzT | apply qzF | (apply qzB; simp (disch:=omega) only [zA,bzZf.1,a0,c0,a1,c1,a2,c2,hn,hs] <;> rfl))
      exact ⟨_,rfl,rfl,S2.grow⟩
     ·have hn : ∀ x y,pBin prog .neq 9 x y (.string a.s) (.string b.s) = some (.bool false):=fun x y=>by rw [hne,q]; rfl
      have hs : ∀ x y,pBin prog .lss 9 x y (.string a.s) (.string b.s) = some (.bool false):=fun x y=>by rw [str_lss,q]; rfl
      rw [q]
      with_reducible repeat (first | (apply qzV; simp (disch:=omega) only [zA,bzZf.1,a0,c0,a1,c1,a2,c2,hn,hs] <;> rfl) | apply qzT | apply qzF | (apply qzB; simp (disch:=omega) only [zA,bzZf.1,a0,c0,a1,c1,a2,c2,hn,hs] <;> rfl))
      exact ⟨_,rfl,rfl,S2.grow⟩
     ·have hn : ∀ x y,pBin prog .neq 9 x y (.string a.s) (.string b.s) = some (.bool true):=fun x y=>by rw [hne,q]; rfl
      have hs : ∀ x y,pBin prog .lss 9 x y (.string a.s) (.string b.s) = some (.bool false):=fun x y=>by rw [str_lss,q]; rfl
      rw [q]
      with_reducible repeat (first | (apply qzV; simp (disch:=omega) only [zA,bzZf.1,a0,c0,a1,c1,a2,c2,hn,hs] <;> rfl) | apply qzT | apply qzF | (apply qzB; simp (disch:=omega) only [zA,bzZf.1,a0,c0,a1,c1,a2,c2,hn,hs] <;> rfl))
      exact ⟨_,rfl,rfl,S2.grow⟩
end Go.Proofs.YtghelamfaaakcaaGreat.Sh
/- 'SegmentOrder' comes to true. -/
set_option linter.unusedVariables false
set_option linter.unusedSimpArgs false
set_option maxRecDepth 100000
namespace Go.Proofs.YtghelamfaaakcaaGreat.Sh
open Go Go.RowKit Go.Proofs.Ev Go.Lib
open Tryz (prog)
/-! ### Zones held against each other -/
theorem stZ : prog.underlying 38 = some (.struct (prog.fieldsOf 38)):=by kernel_rfl
theorem egZ : prog.eqGuardType prog.depth 38 = false:=by kernel_rfl
theorem shZ : prog.stoodInHeld 38 = false:=by kernel_rfl
theorem fsZ : (prog.fieldsOf 38).toList = [{ name := "Count", type := 3, offset := 0, embedded := false, tag := "", pkgPath := "", byteOffset := 0 }, { name := "Nulls", type := 3, offset := 1, embedded := false, tag := "", pkgPath := "", byteOffset := 8 }, { name := "Min", type := 31, offset := 2, embedded := false, tag := "", pkgPath := "", byteOffset := 16 }, { name := "Max", type := 31, offset := 5, embedded := false, tag := "", pkgPath := "", byteOffset := 48 }] := by kernel_rfl
theorem ptZ_0 (z : ZoneD) : prun prog (part 3 (zl z).toArray 0) = some (.int .i64 z.cnt):=by kernel_rfl
theorem ptZ_1 (z : ZoneD) : prun prog (part 3 (zl z).toArray 1) = some (.int .i64 z.nul):=by kernel_rfl
theorem ptZ_2 (z : ZoneD) : prun prog (part 31 (zl z).toArray 2) = some z.mn.v:=by kernel_rfl
theorem ptZ_3 (z : ZoneD) : prun prog (part 31 (zl z).toArray 5) = some z.mx.v:=by kernel_rfl
theorem zone_ext {a b : ZoneD} : a = b ↔ a.cnt = b.cnt ∧ a.nul = b.nul ∧ a.mn = b.mn ∧ a.mx = b.mx:=by
 constructor
 ·rintro rfl; exact ⟨rfl,rfl,rfl,rfl⟩
 ·rintro ⟨h1,h2,h3,h4⟩
  cases a; cases b
  simp only at h1 h2 h3 h4
  subst h1; subst h2; subst h3; subst h4
  rfl
theorem eqZ (d : Nat) (a b : ZoneD) : prun prog (Op.equalIn (d + 3) 38 (zv a) (zv b)) = some (decide (a = b)):=by
 unfold zv
 rw [prun_equal_struct stZ shZ,fsZ]
 simp only [prunFields,ne_eq,String.reduceEq,not_false_eq_true,if_true,ptZ_0,ptZ_1,ptZ_2,ptZ_3,Option.bind_some,prun_equal_int u3,eqC]
 rw [show (decide (a = b)) = decide (a.cnt = b.cnt ∧ a.nul = b.nul ∧ a.mn = b.mn ∧ a.mx = b.mx) from decide_eq_decide.2 zone_ext]
 by_cases h1 : a.cnt = b.cnt
 ·by_cases h2 : a.nul = b.nul
  ·by_cases h3 : a.mn = b.mn
   ·by_cases h4 : a.mx = b.mx
    ·simp [h1,h2,h3,h4]
    ·simp [h1,h2,h3,h4]
   ·simp [h1,h2,h3]
  ·have : (a.nul == b.nul) = false:=by simpa using h2
   simp [h1,h2,this]
 ·have : (a.cnt == b.cnt) = false:=by simpa using h1
  simp [h1,this]
theorem neqZ (a b : ZoneD) {x y : Operand} : pBin prog .neq 38 x y (zv a) (zv b) = some (.bool (!decide (a = b))):=bin_neq_agg rfl rfl egZ (eqZ 9997 a b)
/-! ### The plain law -/
end Go.Proofs.YtghelamfaaakcaaGreat.Sh
