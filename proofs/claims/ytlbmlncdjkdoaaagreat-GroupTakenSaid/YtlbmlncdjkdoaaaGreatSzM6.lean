/- What lies ahead of the law, put together. -/
import Derived.Test.YtlbmlncdjkdoaaaGreatSzM5
import Derived.Test.YtlbmlncdjkdoaaaGreatSzM1
import Derived.OpenShut
import Derived.Test.YtlbmlncdjkdoaaaGreatSzM4
/- What is put in any form is got; columns held against each other. -/
set_option linter.unusedVariables false
set_option linter.unusedSimpArgs false
set_option maxRecDepth 100000
namespace Go.Proofs.YtlbmlncdjkdoaaaGreat.Sh
open Go Go.RowKit Go.Proofs.Ev
theorem foldmin_spec (l : List Int) : ∀ (a : Int),(∀ x ∈ a :: l,l.foldl (fun m x=>if x < m then x else m) a ≤ x) ∧ l.foldl (fun m x=>if x < m then x else m) a ∈ a :: l:=by
 induction l with
 | nil=>intro a; simp
 | cons c l ih =>
  intro a
  simp only [List.foldl_cons]
  have hm : ∃ m,(if c < a then c else a) = m ∧ m ≤ a ∧ m ≤ c ∧ (m = a ∨ m = c):=by
   refine ⟨_,rfl,?_⟩
   by_cases q : c < a
   ·rw [if_pos q]; exact ⟨by omega,by omega,.inr rfl⟩
   ·rw [if_neg q]; exact ⟨by omega,by omega,.inl rfl⟩
  obtain ⟨m,em,ha,hc,hor⟩:=hm
  rw [em]
  obtain ⟨h1,h2⟩:=ih m
  have h3:=h1 m (by simp)
  refine ⟨fun x hx=>?_,?_⟩
  ·rcases List.mem_cons.1 hx with rfl | hx
   ·omega
   ·rcases List.mem_cons.1 hx with rfl | hx
    ·omega
    ·exact h1 x (by simp [hx])
  ·rcases List.mem_cons.1 h2 with h2 | h2
   ·rw [h2]
    rcases hor with rfl | rfl <;> simp
   ·simp [h2]
theorem minI_spec {l : List Int} (hne : l ≠ []) : (∀ x ∈ l,minI l ≤ x) ∧ minI l ∈ l:=by
 cases l with
 | nil=>exact absurd rfl hne
 | cons a l=>exact foldmin_spec l a
theorem le8 {z : Nat} (hz : z < 18446744073709551616) : ofB (le z 0 8) = z:=by
 rw [ofB_le]
 have h8 : (256 : Nat) ^ 8 = 18446744073709551616:=by decide
 simp only [Nat.mul_zero,Nat.pow_zero,Nat.div_one,h8]
 exact Nat.mod_eq_of_lt hz
theorem le8_take (z : Nat) (r : List Nat) : (le z 0 8 ++ r).take 8 = le z 0 8:=List.take_left' (le_len _ _ _)
theorem le8_drop (z : Nat) (r : List Nat) : (le z 0 8 ++ r).drop 8 = r:=List.drop_left' (le_len _ _ _)
theorem plain_back : ∀ (l : List Int),(∀ z ∈ l,i64ok z)→plainGI l.length (l.flatMap fun z=>le (toU z) 0 8) = some l:=by
 intro l
 induction l with
 | nil=>intro _; rfl
 | cons z l ih =>
  intro h
  rw [List.flatMap_cons,List.length_cons,plainGI,if_neg (by simp [le_len]),le8_drop,le8_take,ih fun x hx=>h x (by simp [hx]),le8 (toU_lt z),toI_toU (h z (by simp))]
  rfl
def unrun (rs : List (Nat × Int)) : List Int:=rs.flatMap fun r=>List.replicate r.1 r.2
theorem unrun_rli (l : List Int) : ∀ (b : Int) (n : Nat),unrun (rli b n l) = List.replicate n b ++ l:=by
 induction l with
 | nil=>intro b n; simp [rli,unrun]
 | cons c l ih =>
  intro b n
  unfold rli
  split
  ·rename_i q
   rw [ih,q,List.replicate_succ']
   simp
  ·have:=ih c 1
   unfold unrun at this ⊢
   rw [List.flatMap_cons,this]
   simp
theorem unrun_runs (l : List Int) : unrun (runsI l) = l:=by
 cases l with
 | nil=>rfl
 | cons b l=>rw [runsI,unrun_rli]; simp
theorem rli_pos (l : List Int) : ∀ (b : Int) (n : Nat),0 < n→∀ r ∈ rli b n l,0 < r.1:=by
 induction l with
 | nil=>intro b n hn r hr; simp [rli] at hr; subst hr; exact hn
 | cons c l ih =>
  intro b n hn r hr
  unfold rli at hr
  split at hr
  ·exact ih b (n + 1) (by omega) r hr
  ·rcases List.mem_cons.1 hr with rfl | hr
   ·exact hn
   ·exact ih c 1 (by omega) r hr
theorem runsI_pos (l : List Int) : ∀ r ∈ runsI l,0 < r.1:=by
 cases l with
 | nil=>intro r hr; cases hr
 | cons b l=>exact rli_pos l b 1 (by omega)
theorem runs_back : ∀ (rs : List (Nat × Int)) (f : Nat),(unrun rs).length ≤ f→(unrun rs).length ≤ 100000→(∀ r ∈ rs,0 < r.1)→(∀ z ∈ unrun rs,i64ok z)→runsG f (unrun rs).length (rs.flatMap runB) = some (unrun rs):=by
 intro rs
 induction rs with
 | nil =>
  intro f _ _ _ _
  cases f <;> rfl
 | cons r rs ih =>
  intro f hf hl hp hz
  have hr:=hp r (by simp)
  have hu : unrun (r :: rs) = List.replicate r.1 r.2 ++ unrun rs:=rfl
  have hlen : (unrun (r :: rs)).length = r.1 + (unrun rs).length:=by rw [hu]; simp
  obtain ⟨f,rfl⟩ : ∃ q,f = q + 1:=⟨f - 1,by omega⟩
  have hzr : i64ok r.2:=hz r.2 (by rw [hu]; simp; left; omega)
  have hd : dec 0 0 (List.flatMap runB (r :: rs)) = some (r.1,le (toU r.2) 0 8 ++ rs.flatMap runB):=by
   have:=dec_pvar (le (toU r.2) 0 8 ++ rs.flatMap runB) r.1 (i:=0) (acc:=0) (.inl rfl) (by simp; omega)
   rw [List.flatMap_cons,runB,List.append_assoc,this]
   simp
  rw [runsG,if_neg (by omega),hd]
  simp only
  rw [if_neg (by simp [le_len]; omega),le8_drop,le8_take,show (unrun (r :: rs)).length - r.1 = (unrun rs).length by omega,
   ih f (by omega) (by omega) (fun x hx=>hp x (by simp [hx])) (fun z hz'=>hz z (by rw [hu]; simp [hz'])),le8 (toU_lt r.2),toI_toU hzr]
  rfl
theorem toI_more {z m : Int} (hz : i64ok z) (hm : i64ok m) : toI ((toU m + toU (z - m)) % 18446744073709551616) = z:=by
 have : (toU m + toU (z - m)) % 18446744073709551616 = toU z:=by
  unfold toU
  omega
 rw [this,toI_toU hz]
theorem pack_back (l : List Int) (hl : l.length ≤ 4096) (hok : ∀ z ∈ l,i64ok z) (hm : i64ok (minI l)) : packG l.length (le (toU (minI l)) 0 8 ++ (widI l :: putN (widI l) (moreI l))) = some l:=by
 have hw:=widI_le l
 have ml : (moreI l).length = l.length:=by simp [moreI]
 obtain ⟨t1,t2⟩:=Pk.there (l:=moreI l) (W:=widI l) (by omega) hw (Nat.le_refl _)
 rw [ml] at t1 t2
 have d9 : (le (toU (minI l)) 0 8 ++ (widI l :: putN (widI l) (moreI l))).drop 9 = putN (widI l) (moreI l):=by
  rw [show (9 : Nat) = 8 + 1 by rfl,← List.drop_drop,le8_drop]
  rfl
 have o1 : ofB ((widI l :: putN (widI l) (moreI l)).take 1) = widI l:=by simp [ofB]
 unfold packG
 rw [if_neg (by simp [le_len]; omega),d9,le8_drop,o1,if_neg (fun h=>h t1),t2,le8_take,le8 (toU_lt _)]
 congr 1
 unfold moreI
 rw [List.map_map]
 conv=>rhs; rw [← List.map_id l]
 exact List.map_congr_left fun z hz=>toI_more (hok z hz) hm
theorem get_form {kd : Nat} (h3 : kd = 1 ∨ kd = 2 ∨ kd = 3) (l : List Int) (hl : l.length ≤ 4096) (hok : ∀ z ∈ l,i64ok z) (hm : i64ok (minI l)) : getI (formB kd l) = some l:=by
 have key : ∀ body,formB kd l = headB kd l.length ++ body→kindG kd l.length body = some l→getI (formB kd l) = some l:=by
  intro body e hk
  have hd:=dec_pvar body l.length (i:=0) (acc:=0) (.inl rfl) (by simp; omega)
  simp only [Nat.mul_zero,Nat.pow_zero,Nat.mul_one,Nat.zero_add] at hd
  rw [e]
  unfold getI headB
  simp only [List.cons_append]
  rw [hd]
  simp only
  rw [if_neg (by omega),if_pos h3,hk]
  simp only
  rw [e]
  unfold headB
  rw [List.cons_append,if_pos rfl]
 rcases h3 with rfl | rfl | rfl
 ·exact key _ rfl (plain_back l hok)
 ·refine key _ rfl ?_
  have:=runs_back (runsI l) l.length (by rw [unrun_runs]; exact Nat.le_refl _) (by rw [unrun_runs]; omega) (runsI_pos l) (by rw [unrun_runs]; exact hok)
  rw [unrun_runs] at this
  exact this
 ·refine key (le (toU (minI l)) 0 8 ++ (widI l :: putN (widI l) (moreI l))) (by unfold formB packB; simp) ?_
  exact pack_back l hl hok hm
theorem putI_form (l : List Int) : ∃ kd,(kd = 1 ∨ kd = 2 ∨ kd = 3) ∧ putI l = formB kd l:=by
 unfold putI
 by_cases q1 : (runsB l).length < (plainB l).length
 ·by_cases q2 : (packB l).length < (runsB l).length
  ·exact ⟨3,by omega,by simp [q1,q2,formB]⟩
  ·exact ⟨2,by omega,by simp [q1,q2,formB]⟩
 ·by_cases q2 : (packB l).length < (plainB l).length
  ·exact ⟨3,by omega,by simp [q1,q2,formB]⟩
  ·exact ⟨1,by omega,by simp [q1,q2,formB]⟩
theorem minI_ok {l : List Int} (h : ∀ z ∈ l,i64ok z) : i64ok (minI l):=by
 by_cases q : l = []
 ·subst q
  have e : minI [] = 0:=rfl
  rw [e]; unfold i64ok; omega
 ·exact h _ (minI_spec q).2
end Go.Proofs.YtlbmlncdjkdoaaaGreat.Sh
/- Segments that are put are got. No program's step in sight; cells held against each other. -/
set_option linter.unusedVariables false
set_option linter.unusedSimpArgs false
set_option maxRecDepth 100000
namespace Go.Proofs.YtlbmlncdjkdoaaaGreat.Sh
open Go Go.RowKit Go.Proofs.Ev Go.Lib
theorem map_self {α : Type} {f : α→α} {l : List α} (h : ∀ x ∈ l,f x = x) : l.map f = l:=by
 conv=>rhs; rw [← List.map_id l]
 exact List.map_congr_left h
theorem back_put {kind : Int} (hk : 1 ≤ kind ∧ kind ≤ 3) {V : List CellD} (hl : V.length ≤ 4096) (hg : ∀ c ∈ V,goodC kind c) (hi : ∀ c ∈ V,i64in c.i) : backB kind (cellsB kind V) V.length = some V:=by
 have h : kind = 1 ∨ kind = 2 ∨ kind = 3:=by omega
 rcases h with rfl | rfl | rfl
 ·show bkN (putI (valsN V)) V.length = some V
  have e : gtN (putI (valsN V)) V.length = some (valsN V):=by
   unfold gtN
   obtain ⟨kd,h3,e⟩:=putI_form (valsN V)
   have hok : ∀ z ∈ valsN V,i64ok z:=fun z hz=>by
    obtain ⟨c,hc,rfl⟩:=List.mem_map.1 hz
    exact hi c hc
   rw [e]
   exact get_form h3 _ (by simp [valsN]; omega) hok (minI_ok hok)
  unfold bkN
  rw [e]
  simp only
  rw [if_pos (by simp [valsN])]
  unfold valsN
  rw [List.map_map]
  exact congrArg some (map_self fun c hc=>mkN_good (hg c hc))
 ·show bkT (Pk.putL (valsT V) 1) V.length = some V
  have h2 : ∀ c ∈ V,toU c.i < 2:=fun c hc=>by
   have:=good_bool (hg c hc)
   unfold toU
   omega
  have hw : Pk.widthN (valsT V) ≤ 1:=(Pk.width_le _ _).2 fun x hx=>by
   obtain ⟨c,hc,rfl⟩:=List.mem_map.1 hx
   have:=h2 c hc
   omega
  have hl2 : (valsT V).length = V.length:=List.length_map ..
  have pe : Pk.putE (valsT V) 1 = 0:=Pk.putE_of (W:=1) (by omega) (by omega) hw
  have pl : Pk.putL (valsT V) 1 = putN 1 (valsT V):=by unfold Pk.putL; rw [if_pos pe]; rfl
  obtain ⟨t1,t2⟩:=Pk.there (l:=valsT V) (W:=1) (by omega) (by omega) hw
  rw [hl2] at t1 t2
  have e : gtT (Pk.putL (valsT V) 1) V.length = some (valsT V):=by
   unfold gtT
   rw [pl]
   have e1 : ((1 : Nat) : Int) = 1:=rfl
   rw [e1] at t1 t2
   rw [if_pos t1,t2]
  unfold bkT
  rw [e]
  simp only
  rw [if_pos hl2]
  unfold valsT
  rw [List.map_map]
  refine congrArg some (map_self fun c hc=>?_)
  have:=mkT_good (hg c hc)
  rw [Nat.mod_eq_of_lt (by have:=h2 c hc; omega)] at this
  exact this
 ·show bkW (putT (valsW V)) V.length = some V
  have hm : mayT (valsW V) = true:=by
   rw [mayT_spec]
   refine ⟨by simp [valsW]; omega,fun x hx=>?_⟩
   obtain ⟨c,hc,rfl⟩:=List.mem_map.1 hx
   exact cellE_size (hg c hc).2
  have e : gtW (putT (valsW V)) V.length = some (valsW V):=getT_put hm
  unfold bkW
  rw [e]
  simp only
  rw [if_pos (by simp [valsW])]
  unfold valsW
  rw [List.map_map]
  exact congrArg some (map_self fun c hc=>mkW_good (hg c hc))
theorem fill_back : ∀ {l : List CellD},(∀ c ∈ l,c.k = 0→c = c0)→fillF (flg l) (vals l) = l
 | [],_=>rfl
 | c :: l,h=>by
  have ih:=fill_back (l:=l) fun x hx=>h x (List.mem_cons_of_mem _ hx)
  unfold flg vals at ih ⊢
  rw [List.map_cons,List.filter_cons]
  by_cases q : c.k = 0
  ·rw [decide_eq_true q]
   simp only [q,bne_self_eq_false,Bool.false_eq_true,if_false,fillF]
   rw [ih,h c (List.mem_cons_self ..) q]
  ·rw [decide_eq_false q]
   have : (c.k != 0) = true:=by simpa using q
   simp only [this,if_true,fillF]
   rw [ih]
theorem null_c0 {c : CellD} (h : cellE c = 0) (hk : c.k = 0) : c = c0:=by
 have:=cellE_bare h
 unfold bare at this
 rw [if_pos hk] at this
 exact this.symm
theorem get_putS {kind : Int} {l : List CellD} (h : segE kind l = 0) (hi : ∀ c ∈ l,i64in c.i) : gotB (segB kind l) = some (kind,l):=by
 obtain ⟨hk,hl,hall⟩:=segE_zero.1 h
 have ho:=open_put h hi []
 rw [List.append_nil,List.append_nil] at ho
 have hc:=cnt_flg l
 have hfl : (flg l).length = l.length:=List.length_map ..
 have hvl:=vals_le l
 have hs : someB kind (flg l) (restB kind (vals l)) = some (vals l):=by
  unfold someB restB
  by_cases q : vals l = []
  ·rw [q] at hc ⊢
   rw [if_pos (by simp at hc; omega)]
  ·have:=List.length_pos_iff.2 q
   rw [if_neg (by omega),if_neg q,show (flg l).length - cnt (flg l) = (vals l).length by omega]
   exact back_put hk (by omega) (good_vals hall) fun c hc=>hi c (List.mem_filter.1 hc).1
 have hf:=fill_back (l:=l) fun c hc q=>null_c0 (hall c hc).1 q
 unfold gotB
 rw [ho]
 simp only
 rw [hs]
 simp only
 rw [hf,if_pos ⟨h,rfl⟩]
/-! ### 'Same' -/
end Go.Proofs.YtlbmlncdjkdoaaaGreat.Sh
/- Some columns of rows: 'Take' of the document; what is put of them, and of rows where a cell is another one. -/
set_option linter.unusedVariables false
set_option linter.unusedSimpArgs false
set_option maxRecDepth 100000
namespace Go.Proofs.YtlbmlncdjkdoaaaGreat.Sh
open Go Go.RowKit Go.Proofs.Ev
open Tryz (prog)
theorem aggCo2 (c : ColD) : Value.agg (colrow c).toArray = colv c:=rfl
def bzG7:=PLift.up (ai @ld3 (ai @ld73 (ai @aggCo2 (@Nat.add_zero))))
def colZ : ColD:=⟨.empty,0,false⟩
def takeL (cols : List ColD) (pl : List Int) : List ColD:=pl.map fun z=>(cols[z.toNat]?).getD colZ
def okP (cols : List ColD) (pl : List Int) : Prop:=∀ z ∈ pl,0 ≤ z ∧ z < cols.length
theorem takeL_len (cols : List ColD) (pl : List Int) : (takeL cols pl).length = pl.length:=List.length_map ..
theorem takeL_at {cols : List ColD} {pl : List Int} {i : Nat} {z : Int} {c : ColD} (hz : pl[i]? = some z) (hc : cols[z.toNat]? = some c) : (takeL cols pl)[i]? = some c:=by
 unfold takeL
 rw [List.getElem?_map,hz,Option.map_some,hc]
 rfl
theorem bsCo (c : ColD) (h : AH) : pBuildSlice prog 22 1 #[(0,colv c)] h = some (.slice (some ⟨h.n,0,none⟩) 1 1,h.alloc (.cells (colrow c) 73 true)):=by kernel_rfl
theorem appCo : AppT prog #[22,22] 73 3 32:=⟨by kernel_rfl,⟨73,by kernel_rfl⟩,by kernel_rfl,by omega,by kernel_rfl,⟨_,ze73,rfl,rfl⟩⟩
theorem f12_loop {β : Type} {inv : Inv} {k : Nat} {Q : β→Prop} {h0 : AH} {cv pv : Value} {cols : List ColD} {pl : List Int} (C : Cols h0 cv cols) (B : IntsZ h0 pv pl) (hcl : cols.length ≤ 2 ^ 40) (hl : pl.length ≤ 2 ^ 20)
  {ke0 : Value→Value→Value→Value→Value→AH→Option β} {kr : Value→Value→AH→Option β} (n : Nat) :
  ∀ {i j : Nat} {h : AH} {ov : Value},i + n = pl.length→n < j→okP cols (pl.take i)→Stt prog h0.n h0 h [] [(ov,3,(takeL cols (pl.take i)).map colrow)] →
   (okP cols pl→∀ h' ov y1 y2 y3 y4,Stt prog h0.n h0 h' [] [(ov,3,(takeL cols pl).map colrow)]→Tl (ke0 y1 y2 ov y3 y4 h') Q) →
   (∀ h',Grow h0 h'→Tl (kr (.slice none 0 0) (.int .i64 172) h') Q)→Tl (F12_lrlrr inv k j cv pv ov (.int .i64 i) h ke0 kr) Q:=by
 have hb : ∀ h',pLen prog #[24] pv h' = some (.int .i64 pl.length):=fun h'=>B.len
 have hv : ∀ h',pLen prog #[22] cv h' = some (.int .i64 cols.length):=fun h'=>C.len
 induction n with
 | zero =>
  intro i j h ov hi hj ho S hk hf
  obtain ⟨j,rfl⟩ : ∃ q,j = q + 1:=⟨j - 1,by omega⟩
  simp only [F12_lrlrr]
  with_reducible repeat (first | (apply qzV; simp (disch:=omega) only [zA,bzG7.1,hb] <;> rfl) | apply qzT | apply qzF | apply qzG | ((first | apply qzB | apply qzC); simp (disch:=omega) only [zA,bzG7.1,hb] <;> rfl))
  rw [List.take_of_length_le (by omega)] at S ho
  exact hk ho _ _ _ _ _ _ S
 | succ n ih =>
  intro i j h ov hi hj ho S hk hf
  obtain ⟨j,rfl⟩ : ∃ q,j = q + 1:=⟨j - 1,by omega⟩
  obtain ⟨z,ez⟩ : ∃ x,pl[i]? = some x:=⟨_,List.getElem?_eq_getElem (by omega)⟩
  obtain ⟨b,o,hp,hc⟩:=(B.grow S.grow).at_ ez
  have e : (i : Int) + 1 = ((i + 1 : Nat) : Int):=by omega
  simp only [F12_lrlrr,G12_5]
  by_cases q1 : z < 0
  ·with_reducible repeat (first | (apply qzV; simp (disch:=omega) only [zA,bzG7.1,hb,hp,hc] <;> rfl) | apply qzT | apply qzF | apply qzG | ((first | apply qzB | apply qzC); simp (disch:=omega) only [zA,bzG7.1,hb,hp,hc] <;> rfl))
   exact hf _ S.grow
  ·by_cases q2 : z ≥ cols.length
   ·with_reducible repeat (first | (apply qzV; simp (disch:=omega) only [zA,bzG7.1,hb,hp,hc,hv] <;> rfl) | apply qzT | apply qzF | apply qzG | ((first | apply qzB | apply qzC); simp (disch:=omega) only [zA,bzG7.1,hb,hp,hc,hv] <;> rfl))
    exact hf _ S.grow
   ·obtain ⟨m,rfl⟩ : ∃ m : Nat,z = m:=⟨z.toNat,by omega⟩
    obtain ⟨c,ec⟩ : ∃ x,cols[m]? = some x:=⟨_,List.getElem?_eq_getElem (by omega)⟩
    obtain ⟨b',o',hp',hrow'⟩:=(C.grow S.grow).at_ ec
    with_reducible repeat (first | (apply qzV; simp (disch:=omega) only [zA,bzG7.1,hb,hp,hc,hv,hp',hrow'] <;> rfl) | apply qzT | apply qzF | apply qzG | ((first | apply qzB | apply qzC); simp (disch:=omega) only [zA,bzG7.1,hb,hp,hc,hv,hp',hrow'] <;> rfl))
    refine Tl.push S 0 rfl appCo (bsCo _ _) rfl rfl (by rw [List.length_map,takeL_len,List.length_take]; omega) fun ov' h2 S2=>?_
    with_reducible repeat (first | (apply qzV; simp (disch:=omega) only [zA,bzG7.1] <;> rfl) | apply qzT | apply qzF | apply qzG | ((first | apply qzB | apply qzC); simp (disch:=omega) only [zA,bzG7.1] <;> rfl))
    rw [e]
    have et : pl.take (i + 1) = pl.take i ++ [(m : Int)]:=by rw [List.take_add_one,ez]; rfl
    refine ih (by omega) (by omega) ?_ ?_ hk hf
    ·rw [et]
     intro z hz
     rcases List.mem_append.1 hz with hz | hz
     ·exact ho z hz
     ·rw [List.mem_singleton.1 hz]; omega
    ·rw [et]
     have eq2 : takeL cols (pl.take i ++ [(m : Int)]) = takeL cols (pl.take i) ++ [c]:=by
      unfold takeL
      rw [List.map_append,List.map_singleton,Int.toNat_natCast,ec]
      rfl
     rw [eq2,List.map_append]
     exact S2
theorem f12c {k : Nat} {h : AH} {cv pv : Value} {cols : List ColD} {pl : List Int} (C : Cols h cv cols) (B : IntsZ h pv pl) (hcl : cols.length ≤ 2 ^ 40) (hl : pl.length ≤ 2 ^ 20) (hk : pl.length < k) :
  Tl (eInv env (k + 1) (.func 12) #[] #[cv,pv] h) fun r=>(okP cols pl ∧ ∃ o,r.1 = .tuple #[o,.int .i64 0] ∧ Stt prog h.n h r.2 [] [(o,3,(takeL cols pl).map colrow)]) ∨ (r.1 = .tuple #[.slice none 0 0,.int .i64 172] ∧ Grow h r.2):=by
 rw [F12_call]
 unfold F12
 exact f12_loop C B hcl hl pl.length (i:=0) (by omega) (by omega) (fun z hz=>by cases hz) ((Stt.init h).nil 3) (fun ho h' ov y1 y2 y3 y4 S=>⟨_,rfl,.inl ⟨ho,ov,rfl,S⟩⟩) fun h' g=>⟨_,rfl,.inr ⟨rfl,g⟩⟩
/-! ### No program's step in sight -/
theorem taken_fits {cols : List ColD} {row : List CellD} (hf : fitsL cols row = true) : ∀ {pl : List Int},okP cols pl→fitsL (takeL cols pl) (pickL row pl) = true
 | [],_=>rfl
 | z :: pl,h=>by
  obtain ⟨h0,h1⟩:=h z (List.mem_cons_self ..)
  obtain ⟨c,ec⟩ : ∃ x,cols[z.toNat]? = some x:=⟨_,List.getElem?_eq_getElem (by omega)⟩
  obtain ⟨v,hv,hc⟩:=fits_at hf ec
  unfold takeL pickL
  rw [List.map_cons,List.map_cons,ec,atC_in h0 hv]
  unfold fitsL
  rw [Bool.and_eq_true]
  exact ⟨hc,taken_fits hf fun x hx=>h x (List.mem_cons_of_mem _ hx)⟩
theorem row_parts {cols : List ColD} {row : List CellD} : rowE cols row = 0 ↔ colsE cols = 0 ∧ row.length = cols.length ∧ fitsL cols row = true:=by
 rw [rowE_zero,colsE_zero]
 unfold rowOk
 rw [Bool.and_eq_true,Bool.and_eq_true,decide_eq_true_eq]
theorem taken_ok {cols : List ColD} {rows : List (List CellD)} {pl : List Int} (P : putOk cols rows) (hp : okP cols pl) (hc : colsE (takeL cols pl) = 0) : putOk (takeL cols pl) (rows.map fun r=>pickL r pl):=by
 refine ⟨hc,by rw [List.length_map]; exact P.2.1,fun r hr=>?_⟩
 obtain ⟨x,hx,rfl⟩:=List.mem_map.1 hr
 obtain ⟨_,_,h3⟩:=row_parts.1 (P.2.2 x hx)
 exact row_parts.2 ⟨hc,by rw [takeL_len]; exact List.length_map ..,taken_fits h3 hp⟩
theorem pick_at {row : List CellD} {pl : List Int} {i : Nat} {z : Int} (hz : pl[i]? = some z) (h0 : 0 ≤ z) : ((pickL row pl)[i]?).getD c0 = (row[z.toNat]?).getD c0:=by
 unfold pickL
 rw [List.getElem?_map,hz,Option.map_some]
 unfold atC
 rw [if_pos h0]
 rfl
theorem taken_seg {cols : List ColD} {rows : List (List CellD)} {pl : List Int} {i : Nat} {z : Int} (hp : okP cols pl) (hz : pl[i]? = some z) : segAt (takeL cols pl) (rows.map fun r=>pickL r pl) i = segAt cols rows z.toNat:=by
 obtain ⟨h0,h1⟩:=hp z (List.mem_of_getElem? hz)
 obtain ⟨c,ec⟩ : ∃ x,cols[z.toNat]? = some x:=⟨_,List.getElem?_eq_getElem (by omega)⟩
 unfold segAt
 have e1 : kindAt (takeL cols pl) i = kindAt cols z.toNat:=by unfold kindAt; rw [takeL_at hz ec,ec]
 have e2 : colL (rows.map fun r=>pickL r pl) i = colL rows z.toNat:=by
  unfold colL
  rw [List.map_map]
  exact List.map_congr_left fun r _=>pick_at hz h0
 rw [e1,e2]
theorem fits_set : ∀ {cols : List ColD} {row : List CellD} {c : Nat} {col : ColD} {y : CellD},fitsL cols row = true→cols[c]? = some col→fitC col y = true→fitsL cols (row.set c y) = true
 | [],_,_,_,_,_,hc,_=>by simp at hc
 | _ :: _,[],_,_,_,h,_,_=>by simp [fitsL] at h
 | a :: cols,v :: row,0,col,y,h,hc,hy=>by
  simp only [fitsL,Bool.and_eq_true] at h
  simp only [List.getElem?_cons_zero,Option.some.injEq] at hc
  subst hc
  rw [List.set_cons_zero,fitsL,hy,h.2]
  rfl
 | a :: cols,v :: row,c + 1,col,y,h,hc,hy=>by
  simp only [fitsL,Bool.and_eq_true] at h
  rw [List.set_cons_succ,fitsL,h.1,fits_set h.2 (by simpa using hc) hy]
  rfl
theorem other_ok {cols : List ColD} {rows : List (List CellD)} (P : putOk cols rows) {r q c : Nat} {x x2 : List CellD} {y : CellD} {col : ColD} (hr : rows[r]? = some x) (hq : rows[q]? = some x2) (hc : cols[c]? = some col) (hy : x2[c]? = some y) : putOk cols (rows.set r (x.set c y)):=by
 refine ⟨P.1,by rw [List.length_set]; exact P.2.1,fun w hw=>?_⟩
 rcases List.mem_or_eq_of_mem_set hw with hw | rfl
 ·exact P.2.2 w hw
 ·obtain ⟨h1,h2,h3⟩:=row_parts.1 (P.2.2 x (List.mem_of_getElem? hr))
  obtain ⟨_,_,h4⟩:=row_parts.1 (P.2.2 x2 (List.mem_of_getElem? hq))
  obtain ⟨v,hv,hf⟩:=fits_at h4 hc
  rw [hy] at hv
  cases hv
  exact row_parts.2 ⟨h1,by rw [List.length_set]; exact h2,fits_set h3 hc hf⟩
theorem set_get {α : Type} {l : List α} {r : Nat} {x : α} (h : l[r]? = some x) : l.set r x = l:=by
 obtain ⟨hl,rfl⟩:=List.getElem?_eq_some_iff.1 h
 simp
theorem other_col {rows : List (List CellD)} {r c i : Nat} {x : List CellD} {y : CellD} (hr : rows[r]? = some x) (hcl : c < x.length) : colL (rows.set r (x.set c y)) i = if i = c then (colL rows c).set r y else colL rows i:=by
 unfold colL
 rw [List.map_set]
 by_cases q : i = c
 ·subst q
  rw [if_pos rfl,List.getElem?_set_self hcl]
  rfl
 ·rw [if_neg q,List.getElem?_set_ne (fun e=>q e.symm)]
  refine set_get ?_
  rw [List.getElem?_map,hr]
  rfl
theorem seg_inj {kind : Int} {l m : List CellD} (hl : segE kind l = 0) (hm : segE kind m = 0) (il : ∀ c ∈ l,i64in c.i) (im : ∀ c ∈ m,i64in c.i) (h : strB (segB kind l) = strB (segB kind m)) : l = m:=by
 have e:=strB_inj (segB_256 (segE_zero.1 hl).1 l) (segB_256 (segE_zero.1 hm).1 m) h
 have h1:=get_putS hl il
 rw [e,get_putS hm im] at h1
 cases h1
 rfl
/-- What one cell is changes its own column's segment alone. -/
theorem other_seg {cols : List ColD} {rows : List (List CellD)} (P : putOk cols rows) {r q c i : Nat} {x x2 : List CellD} {y z : CellD} (hr : rows[r]? = some x) (hq : rows[q]? = some x2) (hy : x2[c]? = some y) (hz : x[c]? = some z) (hi : i < cols.length) (hc : c < cols.length) (hin : ∀ r ∈ rows,∀ x ∈ r,i64in x.i) :
  (decide (segAt cols (rows.set r (x.set c y)) i = segAt cols rows i)) = (decide (i ≠ c) || decide (y = z)):=by
 have hcl : c < x.length:=(List.getElem?_eq_some_iff.1 hz).1
 unfold segAt
 rw [other_col hr hcl]
 by_cases q1 : i = c
 ·subst q1
  rw [if_pos rfl,decide_eq_false (show ¬ i ≠ i from fun h=>h rfl),Bool.false_or]
  have ecol : (colL rows i)[r]? = some z:=by
   unfold colL
   rw [List.getElem?_map,hr,Option.map_some,hz]
   rfl
  by_cases q2 : y = z
  ·subst q2
   rw [set_get ecol]
   simp
  ·rw [decide_eq_false q2,decide_eq_false]
   intro h
   obtain ⟨col,ec⟩ : ∃ x,cols[i]? = some x:=⟨_,List.getElem?_eq_getElem hi⟩
   obtain ⟨k1,k2,_,_⟩:=col_ok P ec
   obtain ⟨k1',k2',_,_⟩:=col_ok (other_ok P hr hq ec hy) ec
   rw [other_col hr hcl,if_pos rfl] at k2'
   rw [k1] at h
   have inC : ∀ rows : List (List CellD),(∀ r ∈ rows,∀ x ∈ r,i64in x.i)→∀ x ∈ colL rows i,i64in x.i:=fun rows hin x hx=>by
    obtain ⟨r,hr,rfl⟩:=List.mem_map.1 hx
    cases q : r[i]? with
    | none=>exact ⟨by decide,by decide⟩
    | some y=>exact hin r hr y (List.mem_of_getElem? q)
   have:=seg_inj k2' k2 (fun w hw=>by
    rcases List.mem_or_eq_of_mem_set hw with hw | rfl
    ·exact inC rows hin w hw
    ·exact hin x2 (List.mem_of_getElem? hq) w (List.mem_of_getElem? hy)) (inC rows hin) h
   rw [← this] at ecol
   have hlt : r < (colL rows i).length:=by rw [colL_len]; exact (List.getElem?_eq_some_iff.1 hr).1
   rw [List.getElem?_set_self hlt] at ecol
   cases ecol
   exact q2 rfl
 ·rw [if_neg q1,decide_eq_true (show i ≠ c from q1),Bool.true_or]
  simp
end Go.Proofs.YtlbmlncdjkdoaaaGreat.Sh
/- 'GroupTaken' comes to true. -/
set_option linter.unusedVariables false
set_option linter.unusedSimpArgs false
set_option maxRecDepth 100000
namespace Go.Proofs.YtlbmlncdjkdoaaaGreat.Sh
open Go Go.RowKit Go.Proofs.Ev
open Tryz (prog)
def bzG8:=PLift.up (ai @ld3 (ai @ld9 (ai @ld34 (ai @ld39 (ai (fun ox oy a b=>bin_eql_bool (ox:=ox) (oy:=oy) (a:=a) (b:=b) u4) (ai (fun ox oy a b=>bin_neq_bool (ox:=ox) (oy:=oy) (a:=a) (b:=b) u4) (ai @aggC (ai @ex2_0 (ai @ex2_1 (@Nat.add_zero))))))))))
theorem f3_l1 {β : Type} {k : Nat} {Q : β→Prop} {h0 : AH} {cv rv pv x3 x4 x11 x13 : Value} {cols : List ColD} {rows : List (List CellD)} {pl : List Int} (C : Cols h0 cv cols) (R : Rows h0 rv rows) (B : IntsZ h0 pv pl) (hlen : ∀ r ∈ rows,r.length = cols.length)
  (hl : rows.length ≤ 64) (hpl : pl.length ≤ 20) (hk' : 20 < k) {O : List OS} {ke0 : Value→Value→Value→Value→Value→Value→Value→Value→Value→Value→AH→Option β} {kr : Value→AH→Option β} (n : Nat) :
  ∀ {i j : Nat} {h : AH} {x15 : Value} {rs : RS},i + n = rows.length→n < j→rowsOf rs = (rows.take i).map (fun r=>pickL r pl)→Stt prog h0.n h0 h [] ((x15,1,outs rs) :: (owns rs ++ O)) →
   (∀ h' x15 rs y16 y78,rowsOf rs = rows.map (fun r=>pickL r pl)→Stt prog h0.n h0 h' [] ((x15,1,outs rs) :: (owns rs ++ O))→Tl (ke0 cv rv pv x3 x4 x11 x13 x15 y16 y78 h') Q) →
   Tl (F3_lrlrrrrrrrr (eInv env (k + 1)) (k + 1) j cv rv pv x3 x4 x11 x13 x15 (.int .i64 i) h ke0 kr) Q:=by
 have hv : ∀ h',pLen prog #[23] rv h' = some (.int .i64 rows.length):=fun h'=>R.len
 have hv2 : ∀ h',pLen prog #[22] cv h' = some (.int .i64 cols.length):=fun h'=>C.len
 induction n with
 | zero =>
  intro i j h x15 rs hi hj hr S hk
  obtain ⟨j,rfl⟩ : ∃ q,j = q + 1:=⟨j - 1,by omega⟩
  simp only [F3_lrlrrrrrrrr]
  with_reducible repeat (first | (apply qzV; simp (disch:=omega) only [zA,bzG8.1,hv] <;> rfl) | apply qzT | apply qzF | apply qzG | apply qzH | ((first | apply qzB | apply qzC | apply qzD); simp (disch:=omega) only [zA,bzG8.1,hv] <;> rfl))
  exact hk _ _ rs _ _ (by rw [hr,List.take_of_length_le (by omega)]) S
 | succ n ih =>
  intro i j h x15 rs hi hj hr S hk
  obtain ⟨j,rfl⟩ : ∃ q,j = q + 1:=⟨j - 1,by omega⟩
  obtain ⟨x,ex⟩ : ∃ x,rows[i]? = some x:=⟨_,List.getElem?_eq_getElem (by omega)⟩
  obtain ⟨b,o,w,hp,hc0,Cw⟩:=R.at_ ex
  have hc:=S.grow.cell hc0
  have hwl : ∀ h',pLen prog #[34] w h' = some (.int .i64 cols.length):=fun h'=>by
   rw [← hlen x (List.mem_of_getElem? ex)]
   exact Cw.len
  have e : (i : Int) + 1 = ((i + 1 : Nat) : Int):=by omega
  have hrl : rs.length = i:=by
   have:=congrArg List.length hr
   rw [rowsOf_len,List.length_map,List.length_take] at this
   omega
  simp only [F3_lrlrrrrrrrr]
  with_reducible repeat (first | (apply qzV; simp (disch:=omega) only [zA,bzG8.1,hv,hv2,hp,hc,hwl] <;> rfl) | apply qzT | apply qzF | apply qzG | apply qzH | ((first | apply qzB | apply qzC | apply qzD); simp (disch:=omega) only [zA,bzG8.1,hv,hv2,hp,hc,hwl] <;> rfl))
  refine Tl.bind (f14c (k:=k) (Cw.grow S.grow) (B.grow S.grow) (by omega) (by omega)) ?_
  rintro ⟨w',h1⟩ S1'
  simp only at S1'
  have S1 : Stt prog h0.n h0 h1 [] ((w',3,(pickL x pl).map crow) :: (x15,1,outs rs) :: (owns rs ++ O)):=S.join S1'
  obtain ⟨a,c,ew,_⟩:=(S1.slV 0 rfl).form
  show Tl (Ev.bnd (pBuildSlice prog 23 1 #[(0,w')] h1) _) Q
  refine Tl.push S1 1 rfl app23 (r:=[w']) (by rw [ew]; exact bs23 _ _ _ _) rfl (by rw [ew]; rfl) (by rw [outs_len]; omega) fun v' h' S2=>?_
  have S3:=S2.permO (O':=(v',1,outs (rs ++ [(w',pickL x pl)])) :: (owns (rs ++ [(w',pickL x pl)]) ++ O)) (by
   unfold outs owns
   rw [List.map_append,List.map_append,List.append_assoc]
   exact (List.Perm.swap _ _ _).trans (.cons _ (List.perm_middle (l₁:=owns rs) (l₂:=O)).symm))
  with_reducible repeat (first | (apply qzV; simp (disch:=omega) only [zA,bzG8.1] <;> rfl) | apply qzT | apply qzF | apply qzG | apply qzH | ((first | apply qzB | apply qzC | apply qzD); simp (disch:=omega) only [zA,bzG8.1] <;> rfl))
  rw [e]
  exact ih (rs:=rs ++ [(w',pickL x pl)]) (by omega) (by omega) (by
   unfold rowsOf at hr ⊢
   rw [List.map_append,hr,List.take_add_one,ex,List.map_append]; rfl) S3 hk
theorem f3_l2 {β : Type} {inv : Inv} {k : Nat} {Q : β→Prop} {h : AH} {cv rv pv x3 x4 lv mv : Value} {cols : List ColD} {rows : List (List CellD)} {pl : List Int} (B : IntsZ h pv pl) (V : Strs h lv (segsL cols rows)) (M : Strs h mv (segsL (takeL cols pl) (rows.map fun r=>pickL r pl)))
  (ho : okP cols pl) (hpl : pl.length ≤ 20) {ke2 : Value→Value→Value→Value→Value→Value→Value→Value→Value→AH→Option β} {kr : Value→AH→Option β} (n : Nat) :
  ∀ {i j : Nat},i + n = pl.length→n < j→(∀ y1 y2,Tl (ke2 cv rv pv x3 x4 lv mv y1 y2 h) Q) →
   Tl (F3_lrlrrrrrrrrrrr inv k j cv rv pv x3 x4 lv mv (.int .i64 i) h ke2 kr) Q:=by
 have hm : ∀ h',pLen prog #[27] mv h' = some (.int .i64 pl.length):=fun h'=>by
  have:=M.len (h':=h')
  rwa [segsL_len,takeL_len] at this
 induction n with
 | zero =>
  intro i j hi hj hk
  obtain ⟨j,rfl⟩ : ∃ q,j = q + 1:=⟨j - 1,by omega⟩
  simp only [F3_lrlrrrrrrrrrrr]
  with_reducible repeat (first | (apply qzV; simp (disch:=omega) only [zA,bzG8.1,hm] <;> rfl) | apply qzT | apply qzF | apply qzG | apply qzH | ((first | apply qzB | apply qzC | apply qzD); simp (disch:=omega) only [zA,bzG8.1,hm] <;> rfl))
  exact hk _ _
 | succ n ih =>
  intro i j hi hj hk
  obtain ⟨j,rfl⟩ : ∃ q,j = q + 1:=⟨j - 1,by omega⟩
  obtain ⟨z,ez⟩ : ∃ x,pl[i]? = some x:=⟨_,List.getElem?_eq_getElem (by omega)⟩
  obtain ⟨h0,h1⟩:=ho z (List.mem_of_getElem? ez)
  obtain ⟨m,rfl⟩ : ∃ m : Nat,z = m:=⟨z.toNat,by omega⟩
  obtain ⟨b1,o1,hp1,hc1⟩:=B.at_ ez
  obtain ⟨b2,o2,hp2,hc2⟩:=M.at_ (k:=.i64) (i:=i) (segsL_at (by rw [takeL_len]; omega))
  obtain ⟨b3,o3,hp3,hc3⟩:=V.at_ (k:=.i64) (i:=m) (segsL_at (by omega))
  have hc2:=hc2 h (Grow.refl _)
  have hc3:=hc3 h (Grow.refl _)
  rw [taken_seg ho ez,Int.toNat_natCast] at hc2
  have ne : ∀ x y,pBin prog .neq 9 x y (.string (segAt cols rows m)) (.string (segAt cols rows m)) = some (.bool false):=fun x y=>by rw [ne_s]; simp
  have e : (i : Int) + 1 = ((i + 1 : Nat) : Int):=by omega
  simp only [F3_lrlrrrrrrrrrrr]
  with_reducible repeat (first | (apply qzV; simp (disch:=omega) only [zA,bzG8.1,hm,hp1,hc1,hp2,hc2,hp3,hc3,ne] <;> rfl) | apply qzT | apply qzF | apply qzG | apply qzH | ((first | apply qzB | apply qzC | apply qzD); simp (disch:=omega) only [zA,bzG8.1,hm,hp1,hc1,hp2,hc2,hp3,hc3,ne] <;> rfl))
  rw [e]
  exact ih (by omega) (by omega) hk
theorem f3_l3 {β : Type} {inv : Inv} {k : Nat} {Q : β→Prop} {h : AH} {rv lv ov nv : Value} {cols : List ColD} {rows rows' : List (List CellD)} {r c : Nat} {x x' : List CellD} {y z : CellD} (R : Rows h rv rows) (R' : Rows h ov rows') (V : Strs h lv (segsL cols rows)) (M : Strs h nv (segsL cols rows'))
  (hr : rows[r]? = some x) (hr' : rows'[r]? = some x') (hz : x[c]? = some z) (hy : x'[c]? = some y) (hcl : cols.length ≤ 16) (hrl : r ≤ 64) (hc : c ≤ 64) (hseg : ∀ i,i < cols.length→decide (segAt cols rows' i = segAt cols rows i) = (decide (i ≠ c) || decide (y = z)))
  {ke4 : Value→Value→Value→Value→Value→Value→Value→Value→AH→Option β} {kr : Value→AH→Option β} (n : Nat) :
  ∀ {i j : Nat},i + n = cols.length→n < j→(∀ y1 y2 y3 y4 y5 y6 y7 y8,Tl (ke4 y1 y2 y3 y4 y5 y6 y7 y8 h) Q) →
   Tl (F3_lrlrrrrrrrrrrrrrrrrr inv k j rv lv (.int .i64 r) (.int .i64 c) ov nv (.int .i64 i) h ke4 kr) Q:=by
 have hm : ∀ h',pLen prog #[27] nv h' = some (.int .i64 cols.length):=fun h'=>by
  have:=M.len (h':=h')
  rwa [segsL_len] at this
 obtain ⟨ba,oa,wa,hpa,hca,Ca⟩:=R.at_ hr
 obtain ⟨bb,ob,hpb,hrb⟩:=Ca.at_ hz
 obtain ⟨bc,oc,wc,hpc,hcc,Cc⟩:=R'.at_ hr'
 obtain ⟨bd,od,hpd,hrd⟩:=Cc.at_ hy
 induction n with
 | zero =>
  intro i j hi hj hk
  obtain ⟨j,rfl⟩ : ∃ q,j = q + 1:=⟨j - 1,by omega⟩
  simp only [F3_lrlrrrrrrrrrrrrrrrrr]
  with_reducible repeat (first | (apply qzV; simp (disch:=omega) only [zA,bzG8.1,hm] <;> rfl) | apply qzT | apply qzF | apply qzG | apply qzH | ((first | apply qzB | apply qzC | apply qzD); simp (disch:=omega) only [zA,bzG8.1,hm] <;> rfl))
  exact hk _ _ _ _ _ _ _ _
 | succ n ih =>
  intro i j hi hj hk
  obtain ⟨j,rfl⟩ : ∃ q,j = q + 1:=⟨j - 1,by omega⟩
  obtain ⟨b2,o2,hp2,hc2⟩:=M.at_ (k:=.i64) (i:=i) (segsL_at (by omega))
  obtain ⟨b3,o3,hp3,hc3⟩:=V.at_ (k:=.i64) (i:=i) (segsL_at (by omega))
  have hc2:=hc2 h (Grow.refl _)
  have hc3:=hc3 h (Grow.refl _)
  have hs:=hseg i (by omega)
  have e : (i : Int) + 1 = ((i + 1 : Nat) : Int):=by omega
  simp only [F3_lrlrrrrrrrrrrrrrrrrr,G3_35]
  by_cases q : i = c
  ·subst q
   have eq : ∀ a b,pBin prog .eql 9 a b (.string (segAt cols rows' i)) (.string (segAt cols rows i)) = some (.bool (decide (y = z))):=fun a b=>by rw [eq_s,hs]; simp
   have ec : ∀ a b,pBin prog .eql 39 a b y.v z.v = some (.bool (decide (y = z))):=fun a b=>eqlC y z
   cases decide (y = z)
   ·with_reducible repeat (first | (apply qzV; simp (disch:=omega) only [zA,bzG8.1,hm,hp2,hc2,hp3,hc3,eq,hpc,hcc,hpd,hrd,hpa,hca,hpb,hrb,ec] <;> rfl) | apply qzT | apply qzF | apply qzG | apply qzH | ((first | apply qzB | apply qzC | apply qzD); simp (disch:=omega) only [zA,bzG8.1,hm,hp2,hc2,hp3,hc3,eq,hpc,hcc,hpd,hrd,hpa,hca,hpb,hrb,ec] <;> rfl))
    rw [e]
    exact ih (by omega) (by omega) hk
   ·with_reducible repeat (first | (apply qzV; simp (disch:=omega) only [zA,bzG8.1,hm,hp2,hc2,hp3,hc3,eq,hpc,hcc,hpd,hrd,hpa,hca,hpb,hrb,ec] <;> rfl) | apply qzT | apply qzF | apply qzG | apply qzH | ((first | apply qzB | apply qzC | apply qzD); simp (disch:=omega) only [zA,bzG8.1,hm,hp2,hc2,hp3,hc3,eq,hpc,hcc,hpd,hrd,hpa,hca,hpb,hrb,ec] <;> rfl))
    rw [e]
    exact ih (by omega) (by omega) hk
  ·have eq : ∀ a b,pBin prog .eql 9 a b (.string (segAt cols rows' i)) (.string (segAt cols rows i)) = some (.bool true):=fun a b=>by rw [eq_s,hs]; simp [q]
   with_reducible repeat (first | (apply qzV; simp (disch:=omega) only [zA,bzG8.1,hm,hp2,hc2,hp3,hc3,eq] <;> rfl) | apply qzT | apply qzF | apply qzG | apply qzH | ((first | apply qzB | apply qzC | apply qzD); simp (disch:=omega) only [zA,bzG8.1,hm,hp2,hc2,hp3,hc3,eq] <;> rfl))
   rw [e]
   exact ih (by omega) (by omega) hk
end Go.Proofs.YtlbmlncdjkdoaaaGreat.Sh
/- 'GroupTaken' comes to true: the walk. -/
set_option linter.unusedVariables false
set_option linter.unusedSimpArgs false
set_option maxRecDepth 100000
namespace Go.Proofs.YtlbmlncdjkdoaaaGreat.Sh
open Go Go.RowKit Go.Proofs.Ev
open Tryz (prog)
def bzG9:=PLift.up (ai @ld3 (ai @ld9 (ai @ld34 (ai @ld39 (ai (fun ox oy a b=>bin_eql_bool (ox:=ox) (oy:=oy) (a:=a) (b:=b) u4) (ai (fun ox oy a b=>bin_neq_bool (ox:=ox) (oy:=oy) (a:=a) (b:=b) u4) (ai @aggC (ai @ex2_0 (ai @ex2_1 (@Nat.add_zero))))))))))
theorem own_set {O' : List OS} {v w : Value} {rs : RS} {r : Nat} {x x' : List CellD} (h : rs[r]? = some (w,x)) :
  (((v,1,outs rs) :: (owns rs ++ O')) : List OS).set (r + 1) (w,3,x'.map crow) = (v,1,outs (rs.set r (w,x'))) :: (owns (rs.set r (w,x')) ++ O'):=by
 have hl:=(List.getElem?_eq_some_iff.1 h).1
 have e1 : outs (rs.set r (w,x')) = outs rs:=by
  unfold outs
  rw [List.map_set]
  refine set_get ?_
  rw [List.getElem?_map,h]
  rfl
 have e2 : owns (rs.set r (w,x')) = (owns rs).set r (w,3,x'.map crow):=by
  unfold owns
  rw [List.map_set]
 rw [e1,e2,List.set_cons_succ,List.set_append_left _ _ (by unfold owns; rw [List.length_map]; exact hl)]
theorem rowsOf_set (rs : RS) (r : Nat) (w : Value) (x : List CellD) : rowsOf (rs.set r (w,x)) = (rowsOf rs).set r x:=by
 unfold rowsOf
 rw [List.map_set]
theorem f3 {k : Nat} {h : AH} {cv rv pv : Value} {cols : List ColD} {rows : List (List CellD)} {pl : List Int} {row col : Int} (C : Cols h cv cols) (R : Rows h rv rows) (B : IntsZ h pv pl) (hrow : -9223372036854775808 ≤ row ∧ row ≤ 9223372036854775807) (hcol : -9223372036854775808 ≤ col ∧ col ≤ 9223372036854775807) (hk : 5000 < k)
  (hpl : pl.length ≤ 9223372036854775807) (hcl : cols.length ≤ 9223372036854775807 ∧ cols.length < k) (hrl : rows.length ≤ 9223372036854775807 ∧ rows.length < k) (hls : ∀ r ∈ rows,r.length ≤ 9223372036854775807 ∧ r.length < k) (hr : ∀ r ∈ rows,∀ x ∈ r,cellR x) :
  Tl (F3 (eInv env (k + 800)) (k + 800) cv rv pv (.int .i64 row) (.int .i64 col) h) fun r=>r.1 = .bool true:=by
 unfold F3
 have hlv:=lives_call (k:=k + 799) (h:=h)
 have elt:=f10e (k:=k + 796) C R ⟨hcl.1,by omega⟩ ⟨hrl.1,by omega⟩ (fun r hr=>⟨(hls r hr).1,by have:=(hls r hr).2; omega⟩)
 have hv : ∀ h',pLen prog #[23] rv h' = some (.int .i64 rows.length):=fun h'=>R.len
 have hv2 : ∀ h',pLen prog #[22] cv h' = some (.int .i64 cols.length):=fun h'=>C.len
 have hv3 : ∀ h',pLen prog #[24] pv h' = some (.int .i64 pl.length):=fun h'=>B.len
 simp only [G3_3]
 cases ql : lightG cols rows
 ·rw [ql] at elt
  with_reducible repeat (first | (apply qzV; simp (disch:=omega) only [zA,bzG9.1,hlv,elt] <;> rfl) | apply qzT | apply qzF | apply qzG | apply qzH | ((first | apply qzB | apply qzC | apply qzD); simp (disch:=omega) only [zA,bzG9.1,hlv,elt] <;> rfl))
  exact ⟨_,rfl,rfl⟩
 rw [ql] at elt
 obtain ⟨lc,lr,lrr⟩:=lightG_all ql
 by_cases qp : pl.length > 20
 ·with_reducible repeat (first | (apply qzV; simp (disch:=omega) only [zA,bzG9.1,hlv,elt,hv3] <;> rfl) | apply qzT | apply qzF | apply qzG | apply qzH | ((first | apply qzB | apply qzC | apply qzD); simp (disch:=omega) only [zA,bzG9.1,hlv,elt,hv3] <;> rfl))
  exact ⟨_,rfl,rfl⟩
 with_reducible repeat (first | (apply qzV; simp (disch:=omega) only [zA,bzG9.1,hlv,elt,hv3] <;> rfl) | apply qzT | apply qzF | apply qzG | apply qzH | ((first | apply qzB | apply qzC | apply qzD); simp (disch:=omega) only [zA,bzG9.1,hlv,elt,hv3] <;> rfl))
 refine Tl.bind (f11c (k:=k + 98) C R hcl.1 hrl.1 (fun r hr=>(hls r hr).1) hr (by omega)) ?_
 rintro ⟨r,h1⟩ ⟨lv,er,S1⟩
 simp only at er S1
 subst er
 with_reducible repeat (first | (apply qzV; simp (disch:=omega) only [zA,bzG9.1] <;> rfl) | apply qzT | apply qzF | apply qzG | apply qzH | ((first | apply qzB | apply qzC | apply qzD); simp (disch:=omega) only [zA,bzG9.1] <;> rfl))
 refine Tl.bind (f12c (k:=k + 799) (C.grow S1.grow) (B.grow S1.grow) (by omega) (by omega) (by omega)) ?_
 simp only [G3_7]
 rintro ⟨r,h2⟩ (⟨ho,sv,er,S2'⟩ | ⟨er,g2⟩)
 rotate_left
 ·simp only at er g2
  subst er
  by_cases qe : putE cols rows = 0
  ·with_reducible repeat (first | (apply qzV; simp (disch:=omega) only [zA,bzG9.1,qe] <;> rfl) | apply qzT | apply qzF | apply qzG | apply qzH | ((first | apply qzB | apply qzC | apply qzD); simp (disch:=omega) only [zA,bzG9.1,qe] <;> rfl))
   exact ⟨_,rfl,rfl⟩
  ·with_reducible repeat (first | (apply qzV; simp (disch:=omega) only [zA,bzG9.1,qe] <;> rfl) | apply qzT | apply qzF | apply qzG | apply qzH | ((first | apply qzB | apply qzC | apply qzD); simp (disch:=omega) only [zA,bzG9.1,qe] <;> rfl))
   exact ⟨_,rfl,rfl⟩
 simp only at er S2'
 subst er
 have S2:=S1.join S2'
 have hS : Cols h2 sv (takeL cols pl):=(S2.slV 0 rfl).z
 have echk:=f13x (k:=k + 599) hS (by rw [takeL_len]; omega)
 by_cases qe : ¬ putE cols rows = 0
 ·with_reducible repeat (first | (apply qzV; simp (disch:=omega) only [zA,bzG9.1] <;> rfl) | apply qzT | apply qzF | apply qzG | apply qzH | ((first | apply qzB | apply qzC | apply qzD); simp (disch:=omega) only [zA,bzG9.1] <;> rfl))
  exact ⟨_,rfl,rfl⟩
 have qe : putE cols rows = 0:=Classical.not_not.1 qe
 rw [if_pos qe] at S2
 have S2 : Stt prog h.n h h2 [] [(sv,3,(takeL cols pl).map colrow),(lv,1,srows (segsL cols rows))]:=S2
 have P:=(putE_zero cols rows).1 qe
 obtain ⟨c1,c16⟩:=cols_len P.1
 have h64:=P.2.1
 by_cases qc : ¬ colsE (takeL cols pl) = 0
 ·with_reducible repeat (first | (apply qzV; simp (disch:=omega) only [zA,bzG9.1,qe,echk] <;> rfl) | apply qzT | apply qzF | apply qzG | apply qzH | ((first | apply qzB | apply qzC | apply qzD); simp (disch:=omega) only [zA,bzG9.1,qe,echk] <;> rfl))
  exact ⟨_,rfl,rfl⟩
 have qc : colsE (takeL cols pl) = 0:=Classical.not_not.1 qc
 rw [qc] at echk
 have hlen : ∀ r ∈ rows,r.length = cols.length:=fun r hr=>(row_parts.1 (P.2.2 r hr)).2.1
 have hll : ∀ h',pLen prog #[27] lv h' = some (.int .i64 cols.length):=fun h'=>by
  have:=(Stt.strs S2 1 rfl).len (h':=h')
  rwa [segsL_len] at this
 simp only [G3_9]
 with_reducible repeat (first | (apply qzV; simp (disch:=omega) only [zA,bzG9.1,qe,echk,hll,hv,hv2] <;> rfl) | apply qzT | apply qzF | apply qzG | apply qzH | ((first | apply qzB | apply qzC | apply qzD); simp (disch:=omega) only [zA,bzG9.1,qe,echk,hll,hv,hv2] <;> rfl))
 refine f3_l1 (k:=k + 799) C R B hlen (by omega) (by omega) (by omega) rows.length (i:=0) (rs:=[]) (by omega) (by omega) (by simp [rowsOf]) (S2.nil 1) fun h3 x15 rs y16 y78 hrs S3=>?_
 have Rp : Rows h3 x15 (rowsOf rs):=rows_out (S3.dropO) (S3.slV 0 rfl)
 rw [hrs] at Rp
 have hpk : ∀ r ∈ (rows.map fun r=>pickL r pl),∀ x ∈ r,cellR x:=fun r hm x hx=>by
  obtain ⟨r0,h0,rfl⟩:=List.mem_map.1 hm
  obtain ⟨z,hz,rfl⟩:=List.mem_map.1 hx
  unfold atC
  split
  ·cases q : r0[z.toNat]? with
   | none=>exact ⟨by decide,by decide⟩
   | some y=>exact hr r0 h0 y (List.mem_of_getElem? q)
  ·exact ⟨by decide,by decide⟩
 have Pt:=taken_ok P ho qc
 have hS3 : Cols h3 sv (takeL cols pl):=((S3.own (sv,3,(takeL cols pl).map colrow) (by simp)).slV).z
 refine Tl.bind (f11c (k:=k + 98) hS3 Rp (by rw [takeL_len]; omega) (by rw [List.length_map]; omega) (fun r hm=>?_) hpk (by omega)) ?_
 ·obtain ⟨r0,_,rfl⟩:=List.mem_map.1 hm
  unfold pickL
  rw [List.length_map]
  omega
 rintro ⟨r,h4⟩ ⟨mv,er,S4'⟩
 simp only at er S4'
 subst er
 rw [(putE_zero _ _).2 Pt,if_pos rfl] at S4'
 rw [(putE_zero _ _).2 Pt]
 have S4 : Stt prog h.n h h4 [] ((mv,1,srows (segsL (takeL cols pl) (rows.map fun r=>pickL r pl))) :: (x15,1,outs rs) :: (owns rs ++ [(sv,3,(takeL cols pl).map colrow),(lv,1,srows (segsL cols rows))])):=S3.join S4'
 have V4 : Strs h4 lv (segsL cols rows):=(S4.own (lv,1,srows (segsL cols rows)) (by simp)).slV
 have M4:=Stt.strs S4 0 rfl
 have hml : ∀ h',pLen prog #[27] mv h' = some (.int .i64 pl.length):=fun h'=>by
  have:=M4.len (h':=h')
  rwa [segsL_len,takeL_len] at this
 simp only [G3_19]
 with_reducible repeat (first | (apply qzV; simp (disch:=omega) only [zA,bzG9.1,hml,hv3] <;> rfl) | apply qzT | apply qzF | apply qzG | apply qzH | ((first | apply qzB | apply qzC | apply qzD); simp (disch:=omega) only [zA,bzG9.1,hml,hv3] <;> rfl))
 refine f3_l2 (B.grow S4.grow) V4 M4 ho (by omega) pl.length (i:=0) (by omega) (by omega) fun y1 y2=>?_
 obtain ⟨r,hrn,er⟩:=f15c (k:=k + 799) row hrow (n:=rows.length) (by omega) (by omega) h4
 obtain ⟨c,hcn,ec⟩:=f15c (k:=k + 799) col hcol (n:=cols.length) (by omega) (by omega) h4
 with_reducible repeat (first | (apply qzV; simp (disch:=omega) only [zA,bzG9.1,hv,hv2,er,ec] <;> rfl) | apply qzT | apply qzF | apply qzG | apply qzH | ((first | apply qzB | apply qzC | apply qzD); simp (disch:=omega) only [zA,bzG9.1,hv,hv2,er,ec] <;> rfl))
 refine Tl.bind (f16c (k:=k + 798) (R.grow S4.grow) (by omega) (fun r hr=>by have:=hlen r hr; omega) (by omega)) ?_
 rintro ⟨ov,h5⟩ ⟨rs5,hrs5,S5'⟩
 simp only at S5'
 have S5 : Stt prog h.n h h5 [] ((ov,1,outs rs5) :: (owns rs5 ++ (mv,1,srows (segsL (takeL cols pl) (rows.map fun r=>pickL r pl))) :: (x15,1,outs rs) :: (owns rs ++ [(sv,3,(takeL cols pl).map colrow),(lv,1,srows (segsL cols rows))]))):=S4.join S5'
 obtain ⟨x,hx⟩ : ∃ x,rows[r]? = some x:=⟨_,List.getElem?_eq_getElem hrn⟩
 have hxl:=hlen x (List.mem_of_getElem? hx)
 obtain ⟨z,hz⟩ : ∃ z,x[c]? = some z:=⟨_,List.getElem?_eq_getElem (by omega)⟩
 have hqn : (r + 1) % rows.length < rows.length:=Nat.mod_lt _ (by omega)
 obtain ⟨x2,hx2⟩ : ∃ x,rows[(r + 1) % rows.length]? = some x:=⟨_,List.getElem?_eq_getElem hqn⟩
 have hx2l:=hlen x2 (List.mem_of_getElem? hx2)
 obtain ⟨y,hy⟩ : ∃ y,x2[c]? = some y:=⟨_,List.getElem?_eq_getElem (by omega)⟩
 obtain ⟨w,hw⟩ : ∃ w,rs5[r]? = some (w,x):=by
  have:=hrs5 ▸ hx
  unfold rowsOf at this
  rw [List.getElem?_map] at this
  cases q : rs5[r]? with
  | none=>rw [q] at this; cases this
  | some p=>rw [q] at this; cases this; exact ⟨p.1,rfl⟩
 have hrem : ∀ a b,pBin prog .rem 3 a b (.int .i64 ((r : Int) + 1)) (.int .i64 rows.length) = some (.int .i64 (((r + 1) % rows.length : Nat) : Int)):=fun a b=>by
  rw [bin_rem (by omega)]
  rfl
 obtain ⟨bo,oo,hpo,hro⟩:=(S5.slV 0 rfl).at_ (t:=23) (k:=.i64) (i:=r) (r:=[w]) (by unfold outs; rw [List.getElem?_map,hw]; rfl) u23 sz34
 have hco:=Ev.cell_of_row (j:=0) hro (by omega)
 rw [Nat.add_zero] at hco
 have hco : h5.cell bo oo = some w:=hco
 have hmem : (((ov,1,outs rs5) :: (owns rs5 ++ (mv,1,srows (segsL (takeL cols pl) (rows.map fun r=>pickL r pl))) :: (x15,1,outs rs) :: (owns rs ++ [(sv,3,(takeL cols pl).map colrow),(lv,1,srows (segsL cols rows))]))) : List OS)[r + 1]? = some (w,3,x.map crow):=by
  rw [List.getElem?_cons_succ,List.getElem?_append_left (by unfold owns; rw [List.length_map]; exact (List.getElem?_eq_some_iff.1 hw).1)]
  unfold owns
  rw [List.getElem?_map,hw]
  rfl
 obtain ⟨bw,hbw,hpw⟩:=S5.idx (r + 1) hmem (t:=34) (kd:=.i64) (j:=c) (by rw [List.length_map]; omega) u34 sz39
 obtain ⟨b2,o2,w2,hp2,hc2,C2⟩:=(R.grow S5.grow).at_ hx2
 obtain ⟨b3,o3,hp3,hr3⟩:=C2.at_ hy
 simp only [G3_28]
 with_reducible repeat (first | (apply qzV; simp (disch:=omega) only [zA,bzG9.1,hv,hpo,hco,hrem,hp2,hc2,hp3,hr3,hpw] <;> rfl) | apply qzT | apply qzF | apply qzG | apply qzH | ((first | apply qzB | apply qzC | apply qzD); simp (disch:=omega) only [zA,bzG9.1,hv,hpo,hco,hrem,hp2,hc2,hp3,hr3,hpw] <;> rfl))
 refine Tl.setAt S5 (r + 1) hmem hbw (by rw [List.length_map]; omega) rfl sz39 rfl fun h6 S6=>?_
 have e6 : (x.map crow).set c (CellD.v y).cells.toList = (x.set c y).map crow:=by rw [List.map_set]; rfl
 rw [e6,own_set hw] at S6
 have P' : putOk cols (rows.set r (x.set c y)):=by
  obtain ⟨col,hcol⟩ : ∃ x,cols[c]? = some x:=⟨_,List.getElem?_eq_getElem hcn⟩
  exact other_ok P hx hx2 hcol hy
 have Ro : ∀ {h' : AH} {O' : List OS},Stt prog h.n h h' [] ((ov,1,outs (rs5.set r (w,x.set c y))) :: (owns (rs5.set r (w,x.set c y)) ++ O'))→Rows h' ov (rows.set r (x.set c y)):=fun {h' O'} S=>by
  have:=rows_out (S.dropO) (S.slV 0 rfl)
  rwa [rowsOf_set,hrs5] at this
 have hin' : ∀ q ∈ rows.set r (x.set c y),∀ a ∈ q,cellR a:=fun q hq a ha=>by
  rcases List.mem_or_eq_of_mem_set hq with hq | rfl
  ·exact hr q hq a ha
  ·rcases List.mem_or_eq_of_mem_set ha with ha | rfl
   ·exact hr x (List.mem_of_getElem? hx) a ha
   ·exact hr x2 (List.mem_of_getElem? hx2) a (List.mem_of_getElem? hy)
 with_reducible repeat (first | (apply qzV; simp (disch:=omega) only [zA,bzG9.1] <;> rfl) | apply qzT | apply qzF | apply qzG | apply qzH | ((first | apply qzB | apply qzC | apply qzD); simp (disch:=omega) only [zA,bzG9.1] <;> rfl))
 refine Tl.bind (f11c (k:=k + 98) (C.grow S6.grow) (Ro S6) hcl.1 (by rw [List.length_set]; omega) (fun q hq=>by have:=(row_parts.1 (P'.2.2 q hq)).2.1; omega) hin' (by omega)) ?_
 rintro ⟨r',h7⟩ ⟨nv,er',S7'⟩
 simp only at er' S7'
 subst er'
 rw [(putE_zero _ _).2 P',if_pos rfl] at S7'
 rw [(putE_zero _ _).2 P']
 have S7:=S6.join S7'
 have M7 : Strs h7 nv (segsL cols (rows.set r (x.set c y))):=Stt.strs S7 0 rfl
 have V7 : Strs h7 lv (segsL cols rows):=(S7.own (lv,1,srows (segsL cols rows)) (by simp)).slV
 have R7 : Rows h7 ov (rows.set r (x.set c y)):=(Ro S6).grow S7'.grow
 have hnl : ∀ h',pLen prog #[27] nv h' = some (.int .i64 cols.length):=fun h'=>by
  have:=M7.len (h':=h')
  rwa [segsL_len] at this
 simp only [G3_30]
 with_reducible repeat (first | (apply qzV; simp (disch:=omega) only [zA,bzG9.1,hnl,hll] <;> rfl) | apply qzT | apply qzF | apply qzG | apply qzH | ((first | apply qzB | apply qzC | apply qzD); simp (disch:=omega) only [zA,bzG9.1,hnl,hll] <;> rfl))
 refine f3_l3 (R.grow S7.grow) R7 V7 M7 hx (List.getElem?_set_self hrn) hz (y:=y) (List.getElem?_set_self (by omega)) c16 (by omega) (by omega) (fun i hi=>?_) cols.length (i:=0) (by omega) (by omega) fun y1 y2 y3 y4 y5 y6 y7 y8=>⟨_,rfl,rfl⟩
 exact other_seg P hx hx2 hy hz hi hcn hr
end Go.Proofs.YtlbmlncdjkdoaaaGreat.Sh
/- Cells, rows and predicates that are handed in. -/
set_option linter.unusedVariables false
set_option linter.unusedSimpArgs false
set_option maxRecDepth 100000
namespace Go.Proofs.YtlbmlncdjkdoaaaGreat.Sh
open Go Go.RowKit Go.ChangeShapes Go.WideShapes Go.Proofs.Ev
open Tryz (prog)
theorem fld {H : Type} {enc : TypeId × Value→H} {W : World} {base n : Nat} {sp : Nat→Bool} {held : Bool} {fs : Array Field} {cs : List Value} {xs : List (DataW H × List MemPlace)} (i t o : Nat) (h : (fs[i]?).map (fun f=>(f.type,f.offset)) = some (t,o))
  (hf : ∀ (i : Nat) (f : Field),fs[i]? = some f→DataW.trod enc prog W base sp held n f.type ((cs.drop f.offset).take (prog.cellsOf f.type)) = xs[i]?) : DataW.trod enc prog W base sp held n t ((cs.drop o).take (prog.cellsOf t)) = xs[i]?:=by
 cases hh : fs[i]? with
 | none=>rw [hh] at h; cases h
 | some f =>
  rw [hh] at h
  simp only [Option.map_some,Option.some.injEq,Prod.mk.injEq] at h
  obtain ⟨rfl,rfl⟩:=h
  exact hf i f hh
theorem co3 : prog.cellsOf 3 = 1:=by kernel_rfl
theorem co2 : prog.cellsOf 2 = 1:=by kernel_rfl
theorem co9 : prog.cellsOf 9 = 1:=by kernel_rfl
theorem co39 : prog.cellsOf 39 = 3:=by kernel_rfl
theorem st39 : prog.underlying 39 = some (.struct (prog.fieldsOf 39)):=by kernel_rfl
section
variable {H : Type} {enc : TypeId × Value→H} {W : World} {base b0 fuel : Nat} {held : Bool} {r : Reach} {cs : List Value} {v : Value} {x : DataW H × List MemPlace} {d : DataW H} {ps : List MemPlace} {sp : Nat→Bool}
theorem trod_cell (h : DataW.trod enc prog W base sp held fuel 39 cs = some x) :
  ∃ a : CellD,cs = crow a ∧ a.s.size ≤ maxLen ∧ (Lit.int .i64 a.k).wf = true ∧ (Lit.int .i64 a.i).wf = true:=by
 obtain ⟨xs,n,rfl,rfl,hl,hx,hf⟩:=DataW.trod_struct st39 h
 rw [co39] at hl
 rw [show (prog.fieldsOf 39).size = 3 by kernel_rfl] at hx
 have e0:=fld 0 3 0 (by kernel_rfl) hf
 have e1:=fld 1 2 1 (by kernel_rfl) hf
 have e2:=fld 2 9 2 (by kernel_rfl) hf
 obtain ⟨x0,x1,x2,rfl⟩ : ∃ x0 x1 x2,cs = [x0,x1,x2]:=by
  match cs,hl with
  | [a,b,c],_=>exact ⟨a,b,c,rfl⟩
 obtain ⟨y0,y1,y2,rfl⟩ : ∃ y0 y1 y2,xs = [y0,y1,y2]:=by
  match xs,hx with
  | [a,b,c],_=>exact ⟨a,b,c,rfl⟩
 simp only [co3,co2,co9,List.drop_zero,List.drop_succ_cons,List.take_succ_cons,List.take_zero,List.getElem?_cons_zero,List.getElem?_cons_succ] at e0 e1 e2
 obtain ⟨k,hk,_,w0⟩:=DataW.trod_int u3 e0
 obtain ⟨i,hi,_,w1⟩:=DataW.trod_int u2 e1
 obtain ⟨s,hs,_,w2⟩:=DataW.trod_string u9 e2
 simp only [List.cons.injEq,and_true] at hk hi hs
 subst hk; subst hi; subst hs
 exact ⟨⟨k,i,s⟩,rfl,w2,w0,w1⟩
theorem tame_crow (n : Nat) (a : CellD) : (crow a).map (tame n 8) = crow a:=by simp [crow,tame]
/-- The value of a slice that is handed in is what is trod. -/
theorem slice_form {t e : TypeId} (ht : prog.underlying t = some (.slice e)) (hv : Value.okWide prog W r b0 t v) : v.cells.toList = [v]:=by
 rcases okSlice ht hv with rfl | ⟨a,len,cap,rfl,_⟩ <;> rfl
theorem inner_cells {t : TypeId} (ht : prog.underlying t = some (.slice 39)) (hf : DataW.trod enc prog W base (fun _=>true) held fuel t cs = some x) :
  ∃ v l,cs = [v] ∧ Cells (extHeap W) (tame W.heap.size 8 v) l ∧ l.length ≤ maxLen ∧ ∀ a ∈ l,a.s.size ≤ maxLen ∧ (Lit.int .i64 a.k).wf = true ∧ (Lit.int .i64 a.i).wf = true:=by
 obtain ⟨v,rows,rfl,hZ,hl,hall⟩:=open_inner ht co39 (by omega) hf
 have key : ∀ rows : List (List Value),(∀ q ∈ rows,∃ fuel y,DataW.trod enc prog W base (fun _=>true) held fuel 39 q = some y)→∃ l : List CellD,rows = l.map crow ∧ ∀ a ∈ l,a.s.size ≤ maxLen ∧ (Lit.int .i64 a.k).wf = true ∧ (Lit.int .i64 a.i).wf = true:=by
  intro rows
  induction rows with
  | nil=>intro _; exact ⟨[],rfl,fun a ha=>by cases ha⟩
  | cons q rows ih =>
   intro h
   obtain ⟨f,y,hy⟩:=h q (List.mem_cons_self ..)
   obtain ⟨a,rfl,ha⟩:=trod_cell hy
   obtain ⟨l,rfl,hl⟩:=ih fun q hq=>h q (List.mem_cons_of_mem _ hq)
   refine ⟨a :: l,rfl,fun z hz=>?_⟩
   rcases List.mem_cons.1 hz with rfl | hz
   ·exact ha
   ·exact hl z hz
 obtain ⟨l,rfl,hl2⟩:=key rows hall
 refine ⟨v,l,rfl,?_,by simpa using hl,hl2⟩
 rw [List.map_map,show ((fun q=>List.map (tame W.heap.size 8) q) ∘ crow) = crow from funext fun a=>tame_crow _ a] at hZ
 exact hZ
end
end Go.Proofs.YtlbmlncdjkdoaaaGreat.Sh
/- Columns that are handed in. -/
set_option linter.unusedVariables false
set_option linter.unusedSimpArgs false
set_option maxRecDepth 100000
namespace Go.Proofs.YtlbmlncdjkdoaaaGreat.Sh
open Go Go.RowKit Go.ChangeShapes Go.WideShapes Go.Proofs.Ev
open Tryz (prog)
theorem co4 : prog.cellsOf 4 = 1:=by kernel_rfl
theorem co73 : prog.cellsOf 73 = 3:=by kernel_rfl
theorem st73 : prog.underlying 73 = some (.struct (prog.fieldsOf 73)):=by kernel_rfl
section
variable {H : Type} {enc : TypeId × Value→H} {W : World} {base b0 fuel : Nat} {held : Bool} {r : Reach} {cs : List Value} {v : Value} {x : DataW H × List MemPlace} {d : DataW H} {ps : List MemPlace} {sp : Nat→Bool}
theorem trod_col (h : DataW.trod enc prog W base sp held fuel 73 cs = some x) : ∃ a : ColD,cs = colrow a ∧ a.name.size ≤ maxLen ∧ (Lit.int .i64 a.kind).wf = true:=by
 obtain ⟨xs,n,rfl,rfl,hl,hx,hf⟩:=DataW.trod_struct st73 h
 rw [co73] at hl
 rw [show (prog.fieldsOf 73).size = 3 by kernel_rfl] at hx
 have e0:=fld 0 9 0 (by kernel_rfl) hf
 have e1:=fld 1 3 1 (by kernel_rfl) hf
 have e2:=fld 2 4 2 (by kernel_rfl) hf
 obtain ⟨x0,x1,x2,rfl⟩ : ∃ x0 x1 x2,cs = [x0,x1,x2]:=by
  match cs,hl with
  | [a,b,c],_=>exact ⟨a,b,c,rfl⟩
 obtain ⟨y0,y1,y2,rfl⟩ : ∃ y0 y1 y2,xs = [y0,y1,y2]:=by
  match xs,hx with
  | [a,b,c],_=>exact ⟨a,b,c,rfl⟩
 simp only [co3,co4,co9,List.drop_zero,List.drop_succ_cons,List.take_succ_cons,List.take_zero,List.getElem?_cons_zero,List.getElem?_cons_succ] at e0 e1 e2
 obtain ⟨s,hs,_,w2⟩:=DataW.trod_string u9 e0
 obtain ⟨i,hi,_,w1⟩:=DataW.trod_int u3 e1
 obtain ⟨b,hb,_⟩:=DataW.trod_bool u4 e2
 simp only [List.cons.injEq,and_true] at hb hi hs
 subst hb; subst hi; subst hs
 exact ⟨⟨s,i,b⟩,rfl,w2,w1⟩
theorem inner_cols {t : TypeId} (ht : prog.underlying t = some (.slice 73)) (hf : DataW.trod enc prog W base (fun _=>true) held fuel t cs = some x) :
  ∃ v l,cs = [v] ∧ Cols (extHeap W) (tame W.heap.size 8 v) l ∧ l.length ≤ maxLen ∧ ∀ a ∈ l,a.name.size ≤ maxLen ∧ (Lit.int .i64 a.kind).wf = true:=by
 obtain ⟨v,rows,rfl,hZ,hl,hall⟩:=open_inner ht co73 (by omega) hf
 have key : ∀ rows : List (List Value),(∀ q ∈ rows,∃ fuel y,DataW.trod enc prog W base (fun _=>true) held fuel 73 q = some y)→∃ l : List ColD,rows = l.map colrow ∧ ∀ a ∈ l,a.name.size ≤ maxLen ∧ (Lit.int .i64 a.kind).wf = true:=by
  intro rows
  induction rows with
  | nil=>intro _; exact ⟨[],rfl,fun a ha=>by cases ha⟩
  | cons q rows ih =>
   intro h
   obtain ⟨f,y,hy⟩:=h q (List.mem_cons_self ..)
   obtain ⟨a,rfl,ha⟩:=trod_col hy
   obtain ⟨l,rfl,hl⟩:=ih fun q hq=>h q (List.mem_cons_of_mem _ hq)
   refine ⟨a :: l,rfl,fun z hz=>?_⟩
   rcases List.mem_cons.1 hz with rfl | hz
   ·exact ha
   ·exact hl z hz
 obtain ⟨l,rfl,hl2⟩:=key rows hall
 refine ⟨v,l,rfl,?_,by simpa using hl,hl2⟩
 have : (l.map colrow).map (fun q=>List.map (tame W.heap.size 8) q) = l.map colrow:=by
  rw [List.map_map]
  exact List.map_congr_left fun a _=>by simp [tame,colrow]
 rw [this] at hZ
 exact hZ
theorem open_cols (hv : Value.okWide prog W r b0 22 v) (hd : DataW.Trod enc prog W base (fun _=>true) held 22 v d ps) :
  ∃ l,Cols (extHeap W) (tame W.heap.size 8 v) l ∧ l.length ≤ maxLen ∧ ∀ a ∈ l,a.name.size ≤ maxLen ∧ (Lit.int .i64 a.kind).wf = true:=by
 obtain ⟨fuel,hf⟩:=hd
 obtain ⟨v',l,e,h1⟩:=inner_cols u22 hf
 rw [slice_form u22 hv] at e
 cases e
 exact ⟨l,h1⟩
end
end Go.Proofs.YtlbmlncdjkdoaaaGreat.Sh
/- Rows of rows that are handed in. -/
set_option linter.unusedVariables false
set_option linter.unusedSimpArgs false
set_option maxRecDepth 100000
namespace Go.Proofs.YtlbmlncdjkdoaaaGreat.Sh
open Go Go.RowKit Go.ChangeShapes Go.WideShapes Go.Proofs.Ev
open Tryz (prog)
theorem co34 : prog.cellsOf 34 = 1:=by kernel_rfl
section
variable {H : Type} {enc : TypeId × Value→H} {W : World} {base b0 fuel : Nat} {held : Bool} {r : Reach} {cs : List Value} {v : Value} {x : DataW H × List MemPlace} {d : DataW H} {ps : List MemPlace}
def RowW (l : List CellD) : Prop:=l.length ≤ maxLen ∧ ∀ a ∈ l,a.s.size ≤ maxLen ∧ (Lit.int .i64 a.k).wf = true ∧ (Lit.int .i64 a.i).wf = true
theorem inner_rows {t : TypeId} (ht : prog.underlying t = some (.slice 34)) (hf : DataW.trod enc prog W base (fun _=>true) held fuel t cs = some x) :
  ∃ v l,cs = [v] ∧ Rows (extHeap W) (tame W.heap.size 8 v) l ∧ l.length ≤ maxLen ∧ ∀ a ∈ l,RowW a:=by
 obtain ⟨v,rows,rfl,hZ,hl,hall⟩:=open_inner ht co34 (by omega) hf
 have key : ∀ rows : List (List Value),(∀ q ∈ rows,∃ fuel y,DataW.trod enc prog W base (fun _=>true) held fuel 34 q = some y)→∃ (vs : List Value) (l : List (List CellD)),(rows.map fun q=>q.map (tame W.heap.size 8)) = vs.map (fun v=>[v]) ∧ All2 (Cells (extHeap W)) vs l ∧ ∀ a ∈ l,RowW a:=by
  intro rows
  induction rows with
  | nil=>intro _; exact ⟨[],[],rfl,trivial,fun a ha=>by cases ha⟩
  | cons q rows ih =>
   intro h
   obtain ⟨f,y,hy⟩:=h q (List.mem_cons_self ..)
   obtain ⟨w,l0,rfl,hc,hl0,hw0⟩:=inner_cells u34 hy
   obtain ⟨vs,l,e,hA,hl⟩:=ih fun q hq=>h q (List.mem_cons_of_mem _ hq)
   refine ⟨tame W.heap.size 8 w :: vs,l0 :: l,by rw [List.map_cons,e]; rfl,⟨hc,hA⟩,fun z hz=>?_⟩
   rcases List.mem_cons.1 hz with rfl | hz
   ·exact ⟨hl0,hw0⟩
   ·exact hl z hz
 obtain ⟨vs,l,e,hA,hl2⟩:=key rows hall
 rw [e] at hZ
 refine ⟨v,l,rfl,⟨vs,hZ,hA⟩,?_,hl2⟩
 rw [← hA.len]
 have:=congrArg List.length e
 simp at this
 omega
theorem open_rows2 (hv : Value.okWide prog W r b0 23 v) (hd : DataW.Trod enc prog W base (fun _=>true) held 23 v d ps) : ∃ l,Rows (extHeap W) (tame W.heap.size 8 v) l ∧ l.length ≤ maxLen ∧ ∀ a ∈ l,RowW a:=by
 obtain ⟨fuel,hf⟩:=hd
 obtain ⟨v',l,e,h1⟩:=inner_rows u23 hf
 rw [slice_form u23 hv] at e
 cases e
 exact ⟨l,h1⟩
end
end Go.Proofs.YtlbmlncdjkdoaaaGreat.Sh
