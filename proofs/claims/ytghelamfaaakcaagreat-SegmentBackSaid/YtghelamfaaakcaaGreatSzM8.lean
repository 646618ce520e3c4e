/- What lies ahead of the law, put together. -/
import Derived.Test.YtghelamfaaakcaaGreatSzM6
import Derived.Test.YtghelamfaaakcaaGreatSzM7
import Derived.Test.YtghelamfaaakcaaGreatSzM1
import Derived.OpenShut
/- The document's zones: 'Cell', 'Check' of zones that may be, 'Of'. -/
set_option linter.unusedVariables false
set_option linter.unusedSimpArgs false
set_option maxRecDepth 100000
namespace Go.Proofs.YtghelamfaaakcaaGreat.Sh
open Go Go.RowKit Go.Proofs.Ev Go.Lib
open Tryz (prog)
def bzZg:=PLift.up (ai @ld3 (ai @ld2 (ai @ld9 (ai @ld31 (ai @ld38 (ai @fa31_0 (ai @fa31_1 (ai @fa31_2 (ai @fa38_0 (ai @fa38_1 (ai @fa38_2 (ai @fa38_3 (ai @aggC (ai @aggZ (@Nat.add_zero)))))))))))))))
theorem mnL_snoc {V : List CellD} {c : CellD} : mnL (V ++ [c]) = if V = [] then c else mn2 (mnL V) c:=by
 cases V with
 | nil=>rfl
 | cons a V =>
  rw [if_neg (by simp)]
  simp [mnL,List.foldl_append]
theorem mxL_snoc {V : List CellD} {c : CellD} : mxL (V ++ [c]) = if V = [] then c else mx2 (mxL V) c:=by
 cases V with
 | nil=>rfl
 | cons a V =>
  rw [if_neg (by simp)]
  simp [mxL,List.foldl_append]
/-- What 'Of' has gone through. -/
def ofQ (n i : Nat) (V : List CellD) : ZoneD:=⟨n,(i : Int) - V.length,mnL V,mxL V⟩
theorem vals_next {l : List CellD} {i : Nat} {c : CellD} (hc : l[i]? = some c) : vals (l.take (i + 1)) = if c.k = 0 then vals (l.take i) else vals (l.take i) ++ [c]:=by
 have hti : l.take (i + 1) = l.take i ++ [c]:=by rw [List.take_add_one,hc]; rfl
 rw [hti]
 unfold vals
 rw [List.filter_append]
 by_cases h : c.k = 0 <;> simp [h]
theorem f17_loop {β : Type} {k : Nat} {Q : β→Prop} {h0 : AH} {b2 b3 : Nat} {v : Value} {l : List CellD} (S : Cells h0 v l) (hl : l.length ≤ 2 ^ 30) {ke0 : Value→Value→Value→Value→Value→Value→AH→Option β} (n : Nat) :
  ∀ {i j : Nat} {h : AH},i + n = l.length→n < j→Stt prog h0.n h0 h [Zr b3 (ofQ l.length i (vals (l.take i))),Zr b2 z0] [] →
   (∀ h' y4 y5 y12,Stt prog h0.n h0 h' [Zr b3 (ofQ l.length l.length (vals l)),Zr b2 z0] []→Tl (ke0 v (ptr b2) (ptr b3) y4 y5 y12 h') Q) →
   Tl (F17_lrlrrr (eInv env (k + 1)) (k + 1) j v (ptr b2) (ptr b3) (.bool (decide (vals (l.take i) = []))) (.int .i64 i) h ke0) Q:=by
 have hv : ∀ h' : AH,pLen prog #[22] v h' = some (.int .i64 l.length):=fun h'=>S.len
 induction n with
 | zero =>
  intro i j h hi hj T hk
  obtain ⟨j,rfl⟩ : ∃ q,j = q + 1:=⟨j - 1,by omega⟩
  simp only [F17_lrlrrr]
  with_reducible repeat (first | (apply qzV; simp (disch:=omega) only [zA,bzZg.1,hv] <;> rfl) | apply qzT | apply qzF | apply qzH | ((first | apply qzB | apply qzD); simp (disch:=omega) only [zA,bzZg.1,hv] <;> rfl))
  rw [List.take_of_length_le (by omega),show i = l.length by omega] at T
  exact hk _ _ _ _ T
 | succ n ih =>
  intro i j h hi hj T hk
  obtain ⟨j,rfl⟩ : ∃ q,j = q + 1:=⟨j - 1,by omega⟩
  obtain ⟨c,hc⟩ : ∃ c,l[i]? = some c:=⟨_,List.getElem?_eq_getElem (by omega)⟩
  obtain ⟨b,o,hx,hr⟩:=(S.grow T.grow).at_ hc
  have k4 : h.cell b o = some (.int .i64 c.k):=Ev.cell_of_row (j:=0) hr (by omega)
  have e : (i : Int) + 1 = ((i + 1 : Nat) : Int):=by omega
  have hvs:=vals_next hc
  have hvl : (vals (l.take i)).length ≤ i:=by have:=vals_le (l.take i); rw [List.length_take] at this; omega
  simp only [F17_lrlrrr]
  unfold F17_lrllrlrrr ptr
  obtain ⟨_,_,nz,mn,mx,_,_⟩:=z_at T 0 rfl
  by_cases p : c.k = 0
  ·rw [if_pos p] at hvs
   have hn : (ofQ l.length i (vals (l.take i))).nul = (i : Int) - (vals (l.take i)).length:=rfl
   with_reducible repeat (first | (apply qzV; simp (disch:=omega) only [zA,bzZg.1,hv,hx,k4,nz,hn] <;> rfl) | apply qzT | apply qzF | apply qzH | ((first | apply qzB | apply qzD); simp (disch:=omega) only [zA,bzZg.1,hv,hx,k4,nz,hn] <;> rfl))
   refine Tl.store' T 0 rfl sz3 rfl rfl (of_decide_eq_true rfl) fun h2 T2 _=>?_
   with_reducible repeat (first | (apply qzV; simp (disch:=omega) only [zA,bzZg.1] <;> rfl) | apply qzT | apply qzF | apply qzH | ((first | apply qzB | apply qzD); simp (disch:=omega) only [zA,bzZg.1] <;> rfl))
   rw [e]
   have go:=ih (i:=i + 1) (j:=j) (h:=h2) (by omega) (by omega)
   rw [hvs] at go
   refine go ?_ hk
   have ez : ofQ l.length (i + 1) (vals (l.take i)) = ⟨l.length,(i : Int) - (vals (l.take i)).length + 1,mnL (vals (l.take i)),mxL (vals (l.take i))⟩:=by unfold ofQ; congr 1; omega
   rw [ez]
   exact T2
  ·rw [if_neg p] at hvs
   have go:=fun h' T'=>ih (i:=i + 1) (j:=j) (h:=h') (by omega) (by omega) T' hk
   rw [hvs] at go
   have ev : decide (vals (l.take i) ++ [c] = []) = false:=by simp
   rw [ev] at go
   have ez : ∀ m x,mnL (vals (l.take i) ++ [c]) = m→mxL (vals (l.take i) ++ [c]) = x→ofQ l.length (i + 1) (vals (l.take i) ++ [c]) = ⟨l.length,(i : Int) - (vals (l.take i)).length,m,x⟩:=fun m x e1 e2=>by
    unfold ofQ
    rw [e1,e2,List.length_append,List.length_singleton]
    congr 1
    omega
   by_cases q : vals (l.take i) = []
   ·have fd:=decide_eq_true q
    rw [mnL_snoc,if_pos q] at ez
    rw [mxL_snoc,if_pos q] at ez
    rw [fd]
    with_reducible repeat (first | (apply qzV; simp (disch:=omega) only [zA,bzZg.1,hv,hx,k4] <;> rfl) | apply qzT | apply qzF | apply qzH | ((first | apply qzB | apply qzD); simp (disch:=omega) only [zA,bzZg.1,hv,hx,k4] <;> rfl))
    unfold F17_rlrllrllrlrrr
    with_reducible repeat (first | (apply qzV; simp (disch:=omega) only [zA,bzZg.1,hx,hr] <;> rfl) | apply qzT | apply qzF | apply qzH | ((first | apply qzB | apply qzD); simp (disch:=omega) only [zA,bzZg.1,hx,hr] <;> rfl))
    refine Tl.store' T 0 rfl sz31 rfl rfl (of_decide_eq_true rfl) fun h2 T2 _=>?_
    have hr2 : h2.row b o 3 = some (crow c):=by
     obtain ⟨b',o',hx',hr'⟩:=(S.grow T2.grow).at_ hc
     have:=hx.symm.trans hx'
     simp only [Option.some.injEq,Value.pointer.injEq,Addr.mk.injEq] at this
     obtain ⟨e1,e2,_⟩:=this
     subst e1; subst e2
     exact hr'
    with_reducible repeat (first | (apply qzV; simp (disch:=omega) only [zA,bzZg.1] <;> rfl) | apply qzT | apply qzF | apply qzH | ((first | apply qzB | apply qzD); simp (disch:=omega) only [zA,bzZg.1] <;> rfl))
    unfold F17_rlrrllrllrlrrr
    with_reducible repeat (first | (apply qzV; simp (disch:=omega) only [zA,bzZg.1,hx,hr2] <;> rfl) | apply qzT | apply qzF | apply qzH | ((first | apply qzB | apply qzD); simp (disch:=omega) only [zA,bzZg.1,hx,hr2] <;> rfl))
    refine Tl.store' T2 0 rfl sz31 rfl rfl (of_decide_eq_true rfl) fun h3 T3 _=>?_
    with_reducible repeat (first | (apply qzV; simp (disch:=omega) only [zA,bzZg.1] <;> rfl) | apply qzT | apply qzF | apply qzH | ((first | apply qzB | apply qzD); simp (disch:=omega) only [zA,bzZg.1] <;> rfl))
    rw [e]
    refine go h3 ?_
    rw [ez c c rfl rfl]
    exact T3
   ·have fd:=decide_eq_false q
    rw [mnL_snoc,if_neg q] at ez
    rw [mxL_snoc,if_neg q] at ez
    have hmn : (ofQ l.length i (vals (l.take i))).mn = mnL (vals (l.take i)):=rfl
    have hmx : (ofQ l.length i (vals (l.take i))).mx = mxL (vals (l.take i)):=rfl
    rw [hmn] at mn
    rw [fd]
    with_reducible repeat (first | (apply qzV; simp (disch:=omega) only [zA,bzZg.1,hv,hx,k4,hr,mn] <;> rfl) | apply qzT | apply qzF | apply qzH | ((first | apply qzB | apply qzD); simp (disch:=omega) only [zA,bzZg.1,hv,hx,k4,hr,mn] <;> rfl))
    with_reducible refine Tl.call' T (f38c (k:=k) c (mnL (vals (l.take i))) h) fun h2 T2 g2=>?_
    have row : ∀ {h'},Stt prog h0.n h0 h' [] []→h'.row b o 3 = some (crow c):=fun {h'} U=>by
     obtain ⟨b',o',hx',hr'⟩:=(S.grow U.grow).at_ hc
     have:=hx.symm.trans hx'
     simp only [Option.some.injEq,Value.pointer.injEq,Addr.mk.injEq] at this
     obtain ⟨e1,e2,_⟩:=this
     subst e1; subst e2
     exact hr'
    have hr2:=row T2.drop.drop
    have step2 : ∀ {h3 : AH} {m : CellD} {y : Value},mn2 (mnL (vals (l.take i))) c = m→Stt prog h0.n h0 h3 [Zr b3 ⟨l.length,(i : Int) - (vals (l.take i)).length,m,mxL (vals (l.take i))⟩,Zr b2 z0] [] →
      Tl (G17_10 (eInv env (k + 1)) v (.pointer (some ⟨b2,0,none⟩)) (.pointer (some ⟨b3,0,none⟩)) (.bool false) (.int .i64 i) h3 fun y51 h_3 =>
       F17_rlrrllrllrlrrr (eInv env (k + 1)) (k + 1) v (.pointer (some ⟨b2,0,none⟩)) (.pointer (some ⟨b3,0,none⟩)) (.int .i64 i) y51 h_3
       fun y0_4 y2_5 y3_6 y5_7 y51_8 h_9=>Ev.bnd (pBin prog .add 3 (.tmp 13) (.const (.int .i64 1)) y5_7 (.int .i64 1)) fun x14=>F17_lrlrrr (eInv env (k + 1)) (k + 1) j y0_4 y2_5 y3_6 (.bool false) x14 h_9 ke0) Q:=by
     intro h3 m y hm T3
     have hr3:=row T3.drop.drop
     obtain ⟨_,_,_,_,mx3,_,_⟩:=z_at T3 0 rfl
     with_reducible repeat (first | (apply qzV; simp (disch:=omega) only [zA,bzZg.1,hx,hr3,mx3] <;> rfl) | apply qzT | apply qzF | apply qzH | ((first | apply qzB | apply qzD); simp (disch:=omega) only [zA,bzZg.1,hx,hr3,mx3] <;> rfl))
     with_reducible refine Tl.call' T3 (f38c (k:=k) c (mxL (vals (l.take i))) h3) fun h4 T4 g4=>?_
     have hr4:=row T4.drop.drop
     by_cases q3 : c.cmp (mxL (vals (l.take i))) > 0
     ·with_reducible repeat (first | (apply qzV; simp (disch:=omega) only [zA,bzZg.1] <;> rfl) | apply qzT | apply qzF | apply qzH | ((first | apply qzB | apply qzD); simp (disch:=omega) only [zA,bzZg.1] <;> rfl))
      unfold F17_rlrrllrllrlrrr
      with_reducible repeat (first | (apply qzV; simp (disch:=omega) only [zA,bzZg.1,hx,hr4] <;> rfl) | apply qzT | apply qzF | apply qzH | ((first | apply qzB | apply qzD); simp (disch:=omega) only [zA,bzZg.1,hx,hr4] <;> rfl))
      refine Tl.store' T4 0 rfl sz31 rfl rfl (of_decide_eq_true rfl) fun h5 T5 _=>?_
      with_reducible repeat (first | (apply qzV; simp (disch:=omega) only [zA,bzZg.1] <;> rfl) | apply qzT | apply qzF | apply qzH | ((first | apply qzB | apply qzD); simp (disch:=omega) only [zA,bzZg.1] <;> rfl))
      rw [e]
      refine go h5 ?_
      rw [ez m c hm (by unfold mx2; rw [if_pos q3])]
      exact T5
     ·with_reducible repeat (first | (apply qzV; simp (disch:=omega) only [zA,bzZg.1] <;> rfl) | apply qzT | apply qzF | apply qzH | ((first | apply qzB | apply qzD); simp (disch:=omega) only [zA,bzZg.1] <;> rfl))
      unfold F17_rlrrllrllrlrrr
      with_reducible repeat (first | (apply qzV; simp (disch:=omega) only [zA,bzZg.1] <;> rfl) | apply qzT | apply qzF | apply qzH | ((first | apply qzB | apply qzD); simp (disch:=omega) only [zA,bzZg.1] <;> rfl))
      rw [e]
      refine go h4 ?_
      rw [ez m _ hm (by unfold mx2; rw [if_neg q3])]
      exact T4
    by_cases q2 : c.cmp (mnL (vals (l.take i))) < 0
    ·with_reducible repeat (first | (apply qzV; simp (disch:=omega) only [zA,bzZg.1] <;> rfl) | apply qzT | apply qzF | apply qzH | ((first | apply qzB | apply qzD); simp (disch:=omega) only [zA,bzZg.1] <;> rfl))
     unfold F17_rlrllrllrlrrr
     with_reducible repeat (first | (apply qzV; simp (disch:=omega) only [zA,bzZg.1,hx,hr2] <;> rfl) | apply qzT | apply qzF | apply qzH | ((first | apply qzB | apply qzD); simp (disch:=omega) only [zA,bzZg.1,hx,hr2] <;> rfl))
     refine Tl.store' T2 0 rfl sz31 rfl rfl (of_decide_eq_true rfl) fun h3 T3 _=>?_
     exact step2 (m:=c) (y:=unk) (by unfold mn2; rw [if_pos q2]) T3
    ·with_reducible repeat (first | (apply qzV; simp (disch:=omega) only [zA,bzZg.1] <;> rfl) | apply qzT | apply qzF | apply qzH | ((first | apply qzB | apply qzD); simp (disch:=omega) only [zA,bzZg.1] <;> rfl))
     unfold F17_rlrllrllrlrrr
     refine Tl.brF ?_
     exact step2 (y:=unk) (by unfold mn2; rw [if_neg q2]) T2
theorem f17c {k : Nat} {h : AH} {v : Value} {l : List CellD} (S : Cells h v l) (hl : l.length ≤ 2 ^ 30) (hk : l.length < k) : Tl (eInv env (k + 2) (.func 17) #[] #[v] h) fun r=>r.1 = zv (ofZ l) ∧ Grow h r.2:=by
 rw [F17_call]
 unfold F17
 have hv : ∀ h' : AH,pLen prog #[22] v h' = some (.int .i64 l.length):=fun h'=>S.len
 have bz : ∀ n : Int,pBuild prog 38 #[(0,.int .i64 n)] = some (zv ⟨n,0,c0,c0⟩):=fun n=>by kernel_rfl
 refine Tl.alloc' (Stt.init h) ze38 rfl fun b2 h1 S1 _=>?_
 with_reducible repeat (first | (apply qzV; simp (disch:=omega) only [zA,bzZg.1,hv,bz] <;> rfl) | apply qzT | apply qzF | apply qzH | ((first | apply qzB | apply qzD); simp (disch:=omega) only [zA,bzZg.1,hv,bz] <;> rfl))
 refine Tl.alloc' S1 ze38 rfl fun b3 h2 S2 _=>?_
 refine Tl.store' S2 0 rfl sz38 rfl rfl (of_decide_eq_true rfl) fun h3 S3 _=>?_
 have S3 : Stt prog h.n h h3 [Zr b3 (ofQ l.length 0 (vals (l.take 0))),Zr b2 z0] []:=S3
 refine f17_loop (k:=k) (b2:=b2) (b3:=b3) S hl l.length (i:=0) (j:=k + 1) (h:=h3) (by omega) (by omega) S3 fun h4 y4 y5 y12 S4=>?_
 have ez : ofQ l.length l.length (vals l) = ofZ l:=by rw [ofZ_rep l (by omega)]; rfl
 rw [ez] at S4
 have r4:=(z_at S4 0 rfl).all
 unfold ptr
 with_reducible repeat (first | (apply qzV; simp (disch:=omega) only [zA,bzZg.1,r4] <;> rfl) | apply qzT | apply qzF | apply qzH | ((first | apply qzB | apply qzD); simp (disch:=omega) only [zA,bzZg.1,r4] <;> rfl))
 refine Tl.store' S4 1 rfl sz38 rfl rfl (of_decide_eq_true rfl) fun h5 S5 _=>?_
 have S5 : Stt prog h.n h h5 [Zr b3 (ofZ l),Zr b2 (ofZ l)] []:=S5
 have r5:=(z_at S5 1 rfl).all
 with_reducible repeat (first | (apply qzV; simp (disch:=omega) only [zA,bzZg.1,r5] <;> rfl) | apply qzT | apply qzF | apply qzH | ((first | apply qzB | apply qzD); simp (disch:=omega) only [zA,bzZg.1,r5] <;> rfl))
 exact ⟨_,rfl,rfl,S5.grow⟩
end Go.Proofs.YtghelamfaaakcaaGreat.Sh
/- 'SegmentZone' comes to true. -/
set_option linter.unusedVariables false
set_option linter.unusedSimpArgs false
set_option maxRecDepth 100000
namespace Go.Proofs.YtghelamfaaakcaaGreat.Sh
open Go Go.RowKit Go.Proofs.Ev Go.Lib
theorem strB_of (s : ByteArray) : strB (bytesN s) = s:=by
 unfold strB bytesN
 rw [List.map_map]
 have e : (UInt8.ofNat ∘ UInt8.toNat) = id:=funext fun x=>by simp
 rw [e,List.map_id]
end Go.Proofs.YtghelamfaaakcaaGreat.Sh
/- 'SegmentBack' comes to true. -/
set_option linter.unusedVariables false
set_option linter.unusedSimpArgs false
set_option maxRecDepth 100000
namespace Go.Proofs.YtghelamfaaakcaaGreat.Sh
open Go Go.RowKit Go.Proofs.Ev Go.Lib
open Tryz (prog)
def bzS22:=PLift.up (ai @ld3 (ai @ld2 (ai @ld9 (ai @ld4 (ai @ld31 (ai @ld38 (ai (fun ox oy a b=>bin_eql_bool (ox:=ox) (oy:=oy) (a:=a) (b:=b) u4) (ai (fun ox oy a b=>bin_neq_bool (ox:=ox) (oy:=oy) (a:=a) (b:=b) u4) (ai @aggC (ai @aggZ (ai @ex2_0 (ai @ex2_1 (ai @ex3_0 (ai @ex3_1 (ai @ex3_2 (@Nat.add_zero))))))))))))))))
theorem segB_len60 {kind : Int} {l : List CellD} (h : segE kind l = 0) (hl : l.length ≤ 60) (ht : tot l ≤ 600) : (segB kind l).length ≤ 4000:=by
 have:=segB_bound h (by omega) (by omega)
 omega
theorem f8 {k : Nat} {h : AH} {v : Value} {l : List CellD} (A : Cells h v l) (hl : l.length ≤ 9223372036854775807) (hi : ∀ c ∈ l,i64in c.i) (kind : Int) (s : ByteArray) :
  Tl (F8 (eInv env (k + 26000)) (k + 26000) (.int .i64 kind) v (.string s) h) fun r=>r.1 = .bool true:=by
 unfold F8
 obtain ⟨bl,el,hbl⟩:=f10t (k:=k + 25998) A hl (by omega)
 have hlv:=lives_call (k:=k + 25999) (h:=h)
 cases bl
 ·with_reducible repeat (first | (apply qzV; simp (disch:=omega) only [zA,bzS22.1,hlv,el] <;> rfl) | apply qzT | apply qzF | apply qzG | apply qzH | ((first | apply qzB | apply qzC | apply qzD); simp (disch:=omega) only [zA,bzS22.1,hlv,el] <;> rfl))
  exact ⟨_,rfl,rfl⟩
 obtain ⟨hl,htot⟩:=hbl rfl
 have ls : ∀ h' : AH,pLen prog #[9] (.string s) h' = some (.int .i64 s.size):=fun h'=>len_string u9
 by_cases q0 : s.size > 600
 ·with_reducible repeat (first | (apply qzV; simp (disch:=omega) only [zA,bzS22.1,hlv,el,ls] <;> rfl) | apply qzT | apply qzF | apply qzG | apply qzH | ((first | apply qzB | apply qzC | apply qzD); simp (disch:=omega) only [zA,bzS22.1,hlv,el,ls] <;> rfl))
  exact ⟨_,rfl,rfl⟩
 with_reducible repeat (first | (apply qzV; simp (disch:=omega) only [zA,bzS22.1,hlv,el,ls] <;> rfl) | apply qzT | apply qzF | apply qzG | apply qzH | ((first | apply qzB | apply qzC | apply qzD); simp (disch:=omega) only [zA,bzS22.1,hlv,el,ls] <;> rfl))
 have hbn:=bytesN_lt s
 have hbl2:=bytesN_len s
 have es : (Value.string s) = .string (strB (bytesN s)):=by rw [strB_of]
 rw [es]
 have nz : ∀ (z : ZoneD) x y,pBin prog .neq 38 x y (zv z) (zv z) = some (.bool false):=fun z x y=>by rw [neqZ]; simp
 /- The second half: what is got of bytes. -/
 have fin : ∀ (h1 : AH) (L : List (Nat × AO)) (O : List OS),Stt prog h.n h h1 L O →
   Tl (Ev.bnd (eInv env (k + 26000) (.func 21) #[] #[.string (strB (bytesN s))] h1) fun x87=>Ev.bnd (pExtract x87.1 0) fun x88=>Ev.bnd (pExtract x87.1 1) fun x89=>Ev.bnd (pExtract x87.1 2) fun x90=>Ev.bnd (pBin prog .neq 25 (.tmp 91) (.const (.int .i64 0)) x90 (.int .i64 0)) fun x92 =>
    brV x92 (G8_15 (eInv env (k + 26000)) x89 x90 x87.2 fun y6 h_3=>some (y6,h_3))
     (Ev.bnd (eInv env (k + 26000) (.func 13) #[] #[x88,x89] x87.2) fun x103=>Ev.bnd (pExtract x103.1 0) fun x104=>Ev.bnd (pExtract x103.1 1) fun x105=>G8_17 (eInv env (k + 26000)) (.string (strB (bytesN s))) x104 x105 x103.2 fun y6_4 h_5=>some (y6_4,h_5))) fun r=>r.1 = .bool true:=by
  intro h1 L O S1
  refine Tl.bind (f21c (k:=k + 18900) hbn (by omega) (by omega)) ?_
  rintro ⟨r,h2⟩ (⟨kd,m,o,hg,er,S2⟩ | ⟨hg,er,g2⟩)
  ·simp only at er S2
   subst er
   obtain ⟨q1,q2⟩:=gotB_some hg
   have hm4:=(segE_zero.1 q1).2.1
   have M2 : Cells h2 o m:=(S2.slV 0 rfl).z
   with_reducible repeat (first | (apply qzV; simp (disch:=omega) only [zA,bzS22.1] <;> rfl) | apply qzT | apply qzF | apply qzG | apply qzH | ((first | apply qzB | apply qzC | apply qzD); simp (disch:=omega) only [zA,bzS22.1] <;> rfl))
   with_reducible refine Tl.call' S2 (f13c (k:=k + 25299) kd M2 (by omega) (by omega)) fun h3 S3 g3=>?_
   rw [q1,if_pos rfl,q2]
   have ee : ∀ x y,pBin prog .eql 9 x y (.string (strB (bytesN s))) (.string (strB (bytesN s))) = some (.bool true):=fun x y=>by rw [bin_eql_string]; simp
   with_reducible repeat (first | (apply qzV; simp (disch:=omega) only [zA,bzS22.1,ee] <;> rfl) | apply qzT | apply qzF | apply qzG | apply qzH | ((first | apply qzB | apply qzC | apply qzD); simp (disch:=omega) only [zA,bzS22.1,ee] <;> rfl))
   exact ⟨_,rfl,rfl⟩
  ·simp only at er g2
   subst er
   have l0 : ∀ h' : AH,pLen prog #[22] (.slice none 0 0) h' = some (.int .i64 0):=fun h'=>len_slice u22
   with_reducible repeat (first | (apply qzV; simp (disch:=omega) only [zA,bzS22.1,l0] <;> rfl) | apply qzT | apply qzF | apply qzG | apply qzH | ((first | apply qzB | apply qzC | apply qzD); simp (disch:=omega) only [zA,bzS22.1,l0] <;> rfl))
   exact ⟨_,rfl,rfl⟩
 with_reducible refine Tl.call' (Stt.init (P:=prog) h) (f13c (k:=k + 25299) kind A (by omega) (by omega)) fun h1 S1 g1=>?_
 with_reducible repeat (first | (apply qzV; simp (disch:=omega) only [zA,bzS22.1] <;> rfl) | apply qzT | apply qzF | apply qzG | apply qzH | ((first | apply qzB | apply qzC | apply qzD); simp (disch:=omega) only [zA,bzS22.1] <;> rfl))
 with_reducible refine Tl.call' S1 (f11c (k:=k + 25997) kind (A.grow g1) (by omega) (by omega)) fun h2 S2 g2=>?_
 by_cases q1 : ¬ segE kind l = 0
 ·have d1 : (segE kind l == 0) = false:=beq_f q1
  with_reducible repeat (first | (apply qzV; simp (disch:=omega) only [zA,bzS22.1,d1] <;> rfl) | apply qzT | apply qzF | apply qzG | apply qzH | ((first | apply qzB | apply qzC | apply qzD); simp (disch:=omega) only [zA,bzS22.1,d1] <;> rfl))
  unfold F8_rlrrrrr
  with_reducible repeat (first | (apply qzV; simp (disch:=omega) only [zA,bzS22.1] <;> rfl) | apply qzT | apply qzF | apply qzG | apply qzH | ((first | apply qzB | apply qzC | apply qzD); simp (disch:=omega) only [zA,bzS22.1] <;> rfl))
  exact fin h2 _ _ S2
 have q1 : segE kind l = 0:=Classical.not_not.1 q1
 rw [q1,if_pos rfl]
 obtain ⟨hkd,_,hall⟩:=segE_zero.1 q1
 have ht:=htot fun c hc=>cellE_size (hall c hc).1
 have l1:=segB_len60 q1 hl ht
 have o1:=open_put q1 hi []
 rw [List.append_nil] at o1
 with_reducible repeat (first | (apply qzV; simp (disch:=omega) only [zA,bzS22.1] <;> rfl) | apply qzT | apply qzF | apply qzG | apply qzH | ((first | apply qzB | apply qzC | apply qzD); simp (disch:=omega) only [zA,bzS22.1] <;> rfl))
 unfold F8_rlrrrrr
 with_reducible repeat (first | (apply qzV; simp (disch:=omega) only [zA,bzS22.1] <;> rfl) | apply qzT | apply qzF | apply qzG | apply qzH | ((first | apply qzB | apply qzC | apply qzD); simp (disch:=omega) only [zA,bzS22.1] <;> rfl))
 refine Tl.bind (f21c (k:=k + 18900) (segB_256 hkd l) (by omega) (by omega)) ?_
 rintro ⟨r,h3⟩ (⟨kd,m,o,hg,er,S3⟩ | ⟨hg,er,g3⟩)
 rotate_left
 ·rw [get_putS q1 hi] at hg; cases hg
 rw [get_putS q1 hi] at hg
 cases hg
 simp only at er S3
 subst er
 have S3:=S2.join S3
 with_reducible repeat (first | (apply qzV; simp (disch:=omega) only [zA,bzS22.1] <;> rfl) | apply qzT | apply qzF | apply qzG | apply qzH | ((first | apply qzB | apply qzC | apply qzD); simp (disch:=omega) only [zA,bzS22.1] <;> rfl))
 refine Tl.bind (f15c (k:=k + 23999) (segB_256 hkd l) (by omega) (by omega)) ?_
 rintro ⟨r,h4⟩ ⟨⟨kd,lz,z1,rest,ho,er⟩ | ⟨ho,er⟩,g4⟩
 rotate_left
 ·rw [o1] at ho; cases ho
 rw [o1] at ho
 cases ho
 simp only at er g4
 subst er
 have S4:=S3.call g4
 with_reducible repeat (first | (apply qzV; simp (disch:=omega) only [zA,bzS22.1] <;> rfl) | apply qzT | apply qzF | apply qzG | apply qzH | ((first | apply qzB | apply qzC | apply qzD); simp (disch:=omega) only [zA,bzS22.1] <;> rfl))
 refine Tl.alloc' S4 ze38 rfl fun b13 h5 S5 _=>?_
 refine Tl.store' S5 0 rfl sz38 rfl rfl (of_decide_eq_true rfl) fun h6 S6 _=>?_
 have S6 : Stt prog h.n h h6 [Zr b13 (ofZ l)] [(o,3,crows l)]:=S6
 have r6:=(z_at S6 0 rfl).all
 have M6 : Cells h6 o l:=(S6.slV 0 rfl).z
 have sc:=f22c (k:=k + 25999) M6 (A.grow S6.grow) (by omega) (by omega) (by omega)
 rw [decide_eq_true rfl] at sc
 with_reducible repeat (first | (apply qzV; simp (disch:=omega) only [zA,bzS22.1,sc,r6] <;> rfl) | apply qzT | apply qzF | apply qzG | apply qzH | ((first | apply qzB | apply qzC | apply qzD); simp (disch:=omega) only [zA,bzS22.1,sc,r6] <;> rfl))
 with_reducible refine Tl.call' S6 (f17c (k:=k + 25998) (A.grow S6.grow) (by omega) (by omega)) fun h7 S7 g7=>?_
 have r7:=(z_at S7 0 rfl).all
 with_reducible repeat (first | (apply qzV; simp (disch:=omega) only [zA,bzS22.1,nz] <;> rfl) | apply qzT | apply qzF | apply qzG | apply qzH | ((first | apply qzB | apply qzC | apply qzD); simp (disch:=omega) only [zA,bzS22.1,nz] <;> rfl))
 with_reducible refine Tl.chk ?_ ?_
 ·simp only [ld38,r6,r7,Option.map_some,aggZ,sameO_some,sameZ,Bool.and_self,Bool.not_true,Bool.or_true,Bool.true_and,Bool.false_or]
 with_reducible repeat (first | (apply qzV; simp (disch:=omega) only [zA,bzS22.1] <;> rfl) | apply qzT | apply qzF | apply qzG | apply qzH | ((first | apply qzB | apply qzC | apply qzD); simp (disch:=omega) only [zA,bzS22.1] <;> rfl))
 exact fin h7 _ _ S7
end Go.Proofs.YtghelamfaaakcaaGreat.Sh
/- Cells, rows and predicates that are handed in. -/
set_option linter.unusedVariables false
set_option linter.unusedSimpArgs false
set_option maxRecDepth 100000
namespace Go.Proofs.YtghelamfaaakcaaGreat.Sh
open Go Go.RowKit Go.ChangeShapes Go.WideShapes Go.Proofs.Ev
open Tryz (prog)
theorem fld {H : Type} {enc : TypeId × Value→H} {W : World} {base n : Nat} {sp : Nat→Bool} {held : Bool} {fs : Array Field} {cs : List Value} {xs : List (DataW H × List MemPlace)} (i t o : Nat) (h : (fs[i]?).map (fun f=>(f.type,f.offset)) = some (t,o))
  (hf : ∀ (i : Nat) (f : Field),fs[i]? = some f→DataW.trod enc prog W base sp held n f.type ((cs.drop f.offset).take (prog.cellsOf f.type)) = xs[i]?) : DataW.trod enc prog W base sp held n t ((cs.drop o).take (prog.cellsOf t)) = xs[i]?:=by
 cases hh : fs[i]? with
 | none=>rw [hh] at h; cases h
 | some f =>
  rw [hh] at h
  simp only [Option.map_some,Option.some.injEq,Prod.mk.injEq] at h
  obtain ⟨rfl,rfl⟩:=h
  exact hf i f hh
theorem co3 : prog.cellsOf 3 = 1:=by kernel_rfl
theorem co2 : prog.cellsOf 2 = 1:=by kernel_rfl
theorem co9 : prog.cellsOf 9 = 1:=by kernel_rfl
theorem co31 : prog.cellsOf 31 = 3:=by kernel_rfl
theorem st31 : prog.underlying 31 = some (.struct (prog.fieldsOf 31)):=by kernel_rfl
section
variable {H : Type} {enc : TypeId × Value→H} {W : World} {base b0 fuel : Nat} {held : Bool} {r : Reach} {cs : List Value} {v : Value} {x : DataW H × List MemPlace} {d : DataW H} {ps : List MemPlace} {sp : Nat→Bool}
theorem trod_cell (h : DataW.trod enc prog W base sp held fuel 31 cs = some x) :
  ∃ a : CellD,cs = crow a ∧ a.s.size ≤ maxLen ∧ (Lit.int .i64 a.k).wf = true ∧ (Lit.int .i64 a.i).wf = true:=by
 obtain ⟨xs,n,rfl,rfl,hl,hx,hf⟩:=DataW.trod_struct st31 h
 rw [co31] at hl
 rw [show (prog.fieldsOf 31).size = 3 by kernel_rfl] at hx
 have e0:=fld 0 3 0 (by kernel_rfl) hf
 have e1:=fld 1 2 1 (by kernel_rfl) hf
 have e2:=fld 2 9 2 (by kernel_rfl) hf
 obtain ⟨x0,x1,x2,rfl⟩ : ∃ x0 x1 x2,cs = [x0,x1,x2]:=by
  match cs,hl with
  | [a,b,c],_=>exact ⟨a,b,c,rfl⟩
 obtain ⟨y0,y1,y2,rfl⟩ : ∃ y0 y1 y2,xs = [y0,y1,y2]:=by
  match xs,hx with
  | [a,b,c],_=>exact ⟨a,b,c,rfl⟩
 simp only [co3,co2,co9,List.drop_zero,List.drop_succ_cons,List.take_succ_cons,List.take_zero,List.getElem?_cons_zero,List.getElem?_cons_succ] at e0 e1 e2
 obtain ⟨k,hk,_,w0⟩:=DataW.trod_int u3 e0
 obtain ⟨i,hi,_,w1⟩:=DataW.trod_int u2 e1
 obtain ⟨s,hs,_,w2⟩:=DataW.trod_string u9 e2
 simp only [List.cons.injEq,and_true] at hk hi hs
 subst hk; subst hi; subst hs
 exact ⟨⟨k,i,s⟩,rfl,w2,w0,w1⟩
theorem tame_crow (n : Nat) (a : CellD) : (crow a).map (tame n 8) = crow a:=by simp [crow,tame]
/-- The value of a slice that is handed in is what is trod. -/
theorem slice_form {t e : TypeId} (ht : prog.underlying t = some (.slice e)) (hv : Value.okWide prog W r b0 t v) : v.cells.toList = [v]:=by
 rcases okSlice ht hv with rfl | ⟨a,len,cap,rfl,_⟩ <;> rfl
theorem inner_cells {t : TypeId} (ht : prog.underlying t = some (.slice 31)) (hf : DataW.trod enc prog W base (fun _=>true) held fuel t cs = some x) :
  ∃ v l,cs = [v] ∧ Cells (extHeap W) (tame W.heap.size 8 v) l ∧ l.length ≤ maxLen ∧ ∀ a ∈ l,a.s.size ≤ maxLen ∧ (Lit.int .i64 a.k).wf = true ∧ (Lit.int .i64 a.i).wf = true:=by
 obtain ⟨v,rows,rfl,hZ,hl,hall⟩:=open_inner ht co31 (by omega) hf
 have key : ∀ rows : List (List Value),(∀ q ∈ rows,∃ fuel y,DataW.trod enc prog W base (fun _=>true) held fuel 31 q = some y)→∃ l : List CellD,rows = l.map crow ∧ ∀ a ∈ l,a.s.size ≤ maxLen ∧ (Lit.int .i64 a.k).wf = true ∧ (Lit.int .i64 a.i).wf = true:=by
  intro rows
  induction rows with
  | nil=>intro _; exact ⟨[],rfl,fun a ha=>by cases ha⟩
  | cons q rows ih =>
   intro h
   obtain ⟨f,y,hy⟩:=h q (List.mem_cons_self ..)
   obtain ⟨a,rfl,ha⟩:=trod_cell hy
   obtain ⟨l,rfl,hl⟩:=ih fun q hq=>h q (List.mem_cons_of_mem _ hq)
   refine ⟨a :: l,rfl,fun z hz=>?_⟩
   rcases List.mem_cons.1 hz with rfl | hz
   ·exact ha
   ·exact hl z hz
 obtain ⟨l,rfl,hl2⟩:=key rows hall
 refine ⟨v,l,rfl,?_,by simpa using hl,hl2⟩
 rw [List.map_map,show ((fun q=>List.map (tame W.heap.size 8) q) ∘ crow) = crow from funext fun a=>tame_crow _ a] at hZ
 exact hZ
theorem open_cells (hv : Value.okWide prog W r b0 22 v) (hd : DataW.Trod enc prog W base (fun _=>true) held 22 v d ps) :
  ∃ l,Cells (extHeap W) (tame W.heap.size 8 v) l ∧ l.length ≤ maxLen ∧ ∀ a ∈ l,a.s.size ≤ maxLen ∧ (Lit.int .i64 a.k).wf = true ∧ (Lit.int .i64 a.i).wf = true:=by
 obtain ⟨fuel,hf⟩:=hd
 obtain ⟨v',l,e,h1⟩:=inner_cells u22 hf
 rw [slice_form u22 hv] at e
 cases e
 exact ⟨l,h1⟩
end
end Go.Proofs.YtghelamfaaakcaaGreat.Sh
