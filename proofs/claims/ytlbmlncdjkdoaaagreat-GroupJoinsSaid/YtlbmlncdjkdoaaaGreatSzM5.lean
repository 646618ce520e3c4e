/- What lies ahead of the law, put together. -/
import Derived.Test.YtlbmlncdjkdoaaaGreatSzM4
import Derived.Test.YtlbmlncdjkdoaaaGreatSzM2
import Derived.Test.YtlbmlncdjkdoaaaGreatSzM3
import Derived.Test.YtlbmlncdjkdoaaaGreatEvC
import Derived.Test.YtlbmlncdjkdoaaaGreatSzT2
import Derived.Test.YtlbmlncdjkdoaaaGreatSzF
import Derived.Test.YtlbmlncdjkdoaaaGreatSzT
import Derived.Test.YtlbmlncdjkdoaaaGreatBits
import Derived.Test.YtlbmlncdjkdoaaaGreatSzM1
/- What 'Put' of the nulls' package comes to. -/
set_option linter.unusedVariables false
set_option linter.unusedSimpArgs false
set_option maxRecDepth 100000
namespace Go.Proofs.YtlbmlncdjkdoaaaGreat.Sh
open Go Go.RowKit Go.Proofs.Ev
open Tryz (prog)
def bzNb:=PLift.up (ai @ld3 (ai @ld4 (ai @ld5 (ai @ld92 (ai @ld24 (ai @ld93 (ai @ld121 (ai @ld124 (ai (fun a h=>conv_int (a:=a) (h:=h) u3 u121) (ai (fun a h=>conv_int (a:=a) (h:=h) u121 u3) (ai (fun ox oy a b=>bin_eql_bool (ox:=ox) (oy:=oy) (a:=a) (b:=b) u4) (ai (fun ox oy a b=>bin_neq_bool (ox:=ox) (oy:=oy) (a:=a) (b:=b) u4) (ai @ex2_0 (@ex2_1))))))))))))))
def formN (l : List Bool) : Nat:=if cnt l = 0 then 0 else if cnt l = l.length then 1 else 2
def b2n (b : Bool) : Nat:=if b then 1 else 0
def putV (l : List Bool) : List Nat:=pvarN l.length ++ (formN l :: if formN l = 2 then putN 1 (l.map b2n) else [])
theorem f87c {k : Nat} {h : AH} {v : Value} {l : List Bool} (S : Bools h v l) (hl : l.length ≤ 2 ^ 40) (hk : l.length < k) : eInv env (k + 2) (.func 87) #[] #[v] h = some (.int .u8 (formN l : Int),h):=by
 have T : Tl (F87 (eInv env (k + 1)) (k + 1) v h) fun r=>r = (.int .u8 (formN l : Int),h):=by
  unfold F87 formN
  have hlen : ∀ h',pLen prog #[119] v h' = some (.int .i64 l.length):=fun h'=>Sl1.len S u119
  have hc:=f117c S hl hk
  by_cases e1 : cnt l = 0
  ·rw [if_pos e1]
   with_reducible repeat (first | (apply qzV; simp (disch:=omega) only [zA,bzNb.1,hc] <;> rfl) | apply qzT | apply qzF | (apply qzB; simp (disch:=omega) only [zA,bzNb.1,hc] <;> rfl))
   exact ⟨_,rfl,rfl⟩
  ·rw [if_neg e1]
   by_cases e2 : cnt l = l.length
   ·rw [if_pos e2]
    with_reducible repeat (first | (apply qzV; simp (disch:=omega) only [zA,bzNb.1,hc,hlen] <;> rfl) | apply qzT | apply qzF | (apply qzB; simp (disch:=omega) only [zA,bzNb.1,hc,hlen] <;> rfl))
    exact ⟨_,rfl,rfl⟩
   ·rw [if_neg e2]
    with_reducible repeat (first | (apply qzV; simp (disch:=omega) only [zA,bzNb.1,hc,hlen] <;> rfl) | apply qzT | apply qzF | (apply qzB; simp (disch:=omega) only [zA,bzNb.1,hc,hlen] <;> rfl))
    exact ⟨_,rfl,rfl⟩
 obtain ⟨r,h1,h2⟩:=T
 rw [F87_call,h1,h2]
theorem f89_loop {β : Type} {k : Nat} {Q : β→Prop} {h0 : AH} {v ov : Value} {l : List Bool} (S : Bools h0 v l) (hl : l.length ≤ 2 ^ 30) {ke0 : Value→Value→Value→Value→Value→AH→Option β} (n : Nat) :
  ∀ {i j : Nat} {h : AH} {done : List Nat},i + n = l.length→n < j→done.length = l.length→done = (l.take i).map b2n ++ List.replicate n 0→Stt prog h0.n h0 h [] [(ov,1,u64rows done)] →
   (∀ h' y y',Stt prog h0.n h0 h' [] [(ov,1,u64rows (l.map b2n))]→Tl (ke0 ov v (.int .i64 l.length) y y' h') Q) →
   Tl (F89_lrlrr (eInv env k) k j ov v (.int .i64 l.length) (.int .i64 i) h ke0) Q:=by
 induction n with
 | zero =>
  intro i j h done hi hj hd he T hk
  obtain ⟨j,rfl⟩ : ∃ q,j = q + 1:=⟨j - 1,by omega⟩
  simp only [F89_lrlrr]
  with_reducible repeat (first | (apply qzV; simp (disch:=omega) only [zA,bzNb.1] <;> rfl) | apply qzT | apply qzF | (apply qzB; simp (disch:=omega) only [zA,bzNb.1] <;> rfl))
  rw [List.take_of_length_le (by omega)] at he
  have : done = l.map b2n:=by simpa using he
  subst this
  exact hk _ _ _ T
 | succ n ih =>
  intro i j h done hi hj hd he T hk
  obtain ⟨j,rfl⟩ : ∃ q,j = q + 1:=⟨j - 1,by omega⟩
  obtain ⟨x,hx⟩ : ∃ x,l[i]? = some x:=⟨_,List.getElem?_eq_getElem (by omega)⟩
  obtain ⟨b,o,hp,hc1⟩:=Sl1.at_ (S.grow T.grow) (t:=119) (k:=.i64) hx u119 sz4
  have hc1:=hc1 h (Grow.refl _)
  obtain ⟨bm,em,hm⟩:=T.idx (t:=124) 0 rfl (kd:=.i64) (j:=i) (by rw [u64rows_len]; omega) u124 sz121
  have e : (i : Int) + 1 = ((i + 1 : Nat) : Int):=by omega
  have hti : l.take (i + 1) = l.take i ++ [x]:=by rw [List.take_add_one,hx]; rfl
  have hlt : ((l.take i).map b2n).length = i:=by simp; omega
  simp only [F89_lrlrr]
  unfold F89_lrrllrlrr
  cases x
  ·with_reducible repeat (first | (apply qzV; simp (disch:=omega) only [zA,bzNb.1,hp,hc1,bv] <;> rfl) | apply qzT | apply qzF | (apply qzB; simp (disch:=omega) only [zA,bzNb.1,hp,hc1,bv] <;> rfl))
   rw [e]
   refine ih (done:=done) (by omega) (by omega) hd ?_ T hk
   rw [hti,he,List.map_append,List.replicate_succ]
   simp [b2n]
  ·with_reducible repeat (first | (apply qzV; simp (disch:=omega) only [zA,bzNb.1,hp,hc1,bv,hm] <;> rfl) | apply qzT | apply qzF | (apply qzB; simp (disch:=omega) only [zA,bzNb.1,hp,hc1,bv,hm] <;> rfl))
   refine Tl.setAt T 0 rfl em (by rw [u64rows_len]; omega) rfl sz121 rfl fun h' T'=>?_
   with_reducible repeat (first | (apply qzV; simp (disch:=omega) only [zA,bzNb.1] <;> rfl) | apply qzT | apply qzF | (apply qzB; simp (disch:=omega) only [zA,bzNb.1] <;> rfl))
   rw [e]
   refine ih (done:=done.set i 1) (by omega) (by omega) (by simp [hd]) ?_ (by simpa [u64rows,u64v,List.map_set,Value.cells] using T') hk
   rw [hti,he,List.map_append,List.replicate_succ,List.set_append_right _ _ (by omega),hlt,Nat.sub_self]
   simp [b2n]
theorem f89c {k : Nat} {h : AH} {v : Value} {l : List Bool} (S : Bools h v l) (hl : l.length ≤ 2 ^ 30) (hk : l.length < k) :
  Tl (eInv env (k + 1) (.func 89) #[] #[v] h) fun r=>OwnB prog h.n r.2 r.1 1 (u64rows (l.map b2n)) ∧ Grow h r.2:=by
 rw [F89_call]
 unfold F89
 have hlen : ∀ h',pLen prog #[119] v h' = some (.int .i64 l.length):=fun h'=>Sl1.len S u119
 with_reducible repeat (first | (apply qzV; simp (disch:=omega) only [zA,bzNb.1,hlen] <;> rfl) | apply qzT | apply qzF | (apply qzB; simp (disch:=omega) only [zA,bzNb.1,hlen] <;> rfl))
 refine Tl.make' (Stt.init h) app124 ze121 (by omega) (by omega) fun ov h1 S1 g1=>?_
 have S1 : Stt prog h.n h h1 [] [(ov,1,u64rows (List.replicate l.length 0))]:=by
  have e : u64rows (List.replicate l.length 0) = List.replicate l.length [.int .u64 0]:=by simp [u64rows,u64v]
  rw [e]; exact S1
 with_reducible repeat (first | (apply qzV; simp (disch:=omega) only [zA,bzNb.1,hlen] <;> rfl) | apply qzT | apply qzF | (apply qzB; simp (disch:=omega) only [zA,bzNb.1,hlen] <;> rfl))
 refine f89_loop S hl l.length (i:=0) (by omega) (by omega) (by simp) (by simp) S1 fun h' y y' T=>?_
 exact ⟨_,rfl,T.ret 0 rfl,T.grow⟩
theorem formN_le (l : List Bool) : formN l ≤ 2:=by unfold formN; split <;> (try split) <;> omega
theorem putV_len {l : List Bool} (hl : l.length ≤ 4096) : (putV l).length ≤ 600:=by
 have h1:=pvarN_le10 (n:=l.length) (by omega)
 have h2 : (putN 1 (l.map b2n)).length ≤ 520:=by
  have:=(putN_spec 1 (l.map b2n)).2.1
  rw [List.length_map] at this
  omega
 unfold putV
 split <;> simp <;> omega
theorem b2n_width (l : List Bool) : Pk.widthN (l.map b2n) ≤ 1:=by
 rw [Pk.width_le]
 intro x hx
 obtain ⟨b,_,rfl⟩:=List.mem_map.1 hx
 cases b <;> simp [b2n]
/-- 'Put'. -/
theorem f69c {k : Nat} {h : AH} {v : Value} {l : List Bool} (S : Bools h v l) (hl : l.length ≤ 4096) (hk : l.length < k) :
  Tl (eInv env (k + 500) (.func 69) #[] #[v] h) fun r=>∃ o,r.1 = .tuple #[o,.int .i64 0] ∧ Grow h r.2 ∧ OwnB prog h.n r.2 o 1 (u8rows (putV l)):=by
 rw [F69_call]
 unfold F69
 have hlen : ∀ h',pLen prog #[92] v h' = some (.int .i64 l.length):=fun h'=>Sl1.len S u92
 with_reducible repeat (first | (apply qzV; simp (disch:=omega) only [zA,bzNb.1,hlen] <;> rfl) | apply qzT | apply qzF | (apply qzB; simp (disch:=omega) only [zA,bzNb.1,hlen] <;> rfl))
 refine Tl.bind (f86c (k:=k + 479) (l:=[]) l.length (by omega) (by simp) ((Stt.init h).nil 1 : Stt prog h.n h h [] ((_,1,u8rows []) :: []))) ?_
 rintro ⟨ov,h1⟩ S1
 simp only [List.nil_append] at S1
 have hf:=f87c (k:=k + 497) (S.grow S1.grow) (by omega) (by omega)
 have h10:=pvarN_le10 (n:=l.length) (by omega)
 have hfl:=formN_le l
 with_reducible repeat (first | (apply qzV; simp (disch:=omega) only [zA,bzNb.1,hf] <;> rfl) | apply qzT | apply qzF | (apply qzB; simp (disch:=omega) only [zA,bzNb.1,hf] <;> rfl))
 refine Tl.push S1 0 rfl app93 (bs93 _ _) rfl rfl (by rw [u8rows_len]; omega) fun ov2 h2 S2=>?_
 have hf2:=f87c (k:=k + 497) (S.grow S2.grow) (by omega) (by omega)
 have e2 : u8rows (pvarN l.length) ++ [[.int .u8 (formN l : Int)]] = u8rows (pvarN l.length ++ [formN l]):=by simp [u8rows,u8v]
 have S2 : Stt prog h.n h h2 [] [(ov2,1,u8rows (pvarN l.length ++ [formN l]))]:=by rw [← e2]; exact S2
 by_cases q : formN l = 2
 ·with_reducible repeat (first | (apply qzV; simp (disch:=omega) only [zA,bzNb.1,hf2] <;> rfl) | apply qzT | apply qzF | (apply qzB; simp (disch:=omega) only [zA,bzNb.1,hf2] <;> rfl))
  refine Tl.callO S2 (f89c (k:=k + 498) (S.grow S2.grow) (by omega) (by omega)) fun wv h3 S3 g3=>?_
  refine Tl.bind (f88c (k:=k + 198) (S3.sl1 0 rfl) (by simp; omega) (by simp; omega) (fun x hx=>?_) 1) ?_
  ·obtain ⟨b,_,rfl⟩:=List.mem_map.1 hx
   cases b <;> simp [b2n]
  rintro ⟨r,h4⟩ ⟨pv,er,g4,X⟩
  simp only at er g4 X
  subst er
  have pe : Pk.putE (l.map b2n) 1 = 0:=Pk.putE_of (W:=1) (by simp; omega) (by omega) (b2n_width l)
  have pl : Pk.putL (l.map b2n) 1 = putN 1 (l.map b2n):=by unfold Pk.putL; rw [if_pos pe]; rfl
  rw [pl] at X
  have S4:=S3.gain g4 X
  with_reducible repeat (first | (apply qzV; simp (disch:=omega) only [zA,bzNb.1,pe] <;> rfl) | apply qzT | apply qzF | (apply qzB; simp (disch:=omega) only [zA,bzNb.1,pe] <;> rfl))
  have hpl : (putN 1 (l.map b2n)).length ≤ 520:=by
   have:=(putN_spec 1 (l.map b2n)).2.1
   rw [List.length_map] at this
   omega
  refine Tl.append' S4 2 rfl app93 (S4.slV 0 rfl) (one_u8rows _) (by rw [u8rows_len,u8rows_len]; simp; omega) fun ov3 h5 S5=>?_
  with_reducible repeat (first | (apply qzV; simp (disch:=omega) only [zA,bzNb.1] <;> rfl) | apply qzT | apply qzF | (apply qzB; simp (disch:=omega) only [zA,bzNb.1] <;> rfl))
  refine ⟨_,rfl,ov3,rfl,S5.grow,?_⟩
  have:=S5.ret 2 rfl
  have e3 : u8rows (pvarN l.length ++ [formN l]) ++ u8rows (putN 1 (l.map b2n)) = u8rows (putV l):=by
   unfold putV
   rw [if_pos q]
   simp [u8rows]
  rw [e3] at this
  exact this
 ·with_reducible repeat (first | (apply qzV; simp (disch:=omega) only [zA,bzNb.1,hf2] <;> rfl) | apply qzT | apply qzF | (apply qzB; simp (disch:=omega) only [zA,bzNb.1,hf2] <;> rfl))
  refine ⟨_,rfl,ov2,rfl,S2.grow,?_⟩
  have:=S2.ret 0 rfl
  have e3 : pvarN l.length ++ [formN l] = putV l:=by
   unfold putV
   rw [if_neg q]
  rw [e3] at this
  exact this
end Go.Proofs.YtlbmlncdjkdoaaaGreat.Sh
/- What 'segment.Put' comes to. -/
set_option linter.unusedVariables false
set_option linter.unusedSimpArgs false
set_option maxRecDepth 100000
namespace Go.Proofs.YtlbmlncdjkdoaaaGreat.Sh
open Go Go.RowKit Go.Proofs.Ev Go.Lib
open Tryz (prog)
def bzS5:=PLift.up (ai @ld3 (ai @ld2 (ai @ld9 (ai @ld4 (ai @ld39 (ai @fa39_0 (ai @fa39_1 (ai @fa39_2 (ai (fun a h=>conv_int (a:=a) (h:=h) u3 u5) (ai @aggC (ai @ex2_0 (ai @ex2_1 (@Nat.add_zero)))))))))))))
theorem appCs : AppT prog #[34,34] 39 3 32:=⟨by kernel_rfl,⟨39,by kernel_rfl⟩,by kernel_rfl,by omega,by kernel_rfl,⟨_,ze39,rfl,rfl⟩⟩
theorem bsCs (c : CellD) (h : AH) : pBuildSlice prog 34 1 #[(0,c.v)] h = some (.slice (some ⟨h.n,0,none⟩) 1 1,h.alloc (.cells (crow c) 39 true)):=by kernel_rfl
def flg (l : List CellD) : List Bool:=l.map fun c=>decide (c.k = 0)
def crows (l : List CellD) : List (List Value):=l.map crow
theorem crows_len (l : List CellD) : (crows l).length = l.length:=List.length_map ..
def flx (l : List CellD) (i : Nat) : List Bool:=flg (l.take i) ++ List.replicate (l.length - i) false
theorem flx_len {l : List CellD} {i : Nat} (h : i ≤ l.length) : (flx l i).length = l.length:=by simp [flx,flg]; omega
theorem flx_set {l : List CellD} {i : Nat} {c : CellD} (hc : l[i]? = some c) : (flx l i).set i (decide (c.k = 0)) = flx l (i + 1):=by
 have hlt:=(List.getElem?_eq_some_iff.1 hc).1
 have hti : l.take (i + 1) = l.take i ++ [c]:=by rw [List.take_add_one,hc]; rfl
 have hr : l.length - i = (l.length - (i + 1)) + 1:=by omega
 have hl : (flg (l.take i)).length = i:=by simp [flg]; omega
 unfold flx
 rw [hti,hr,List.replicate_succ,List.set_append_right _ _ (by omega),hl,Nat.sub_self]
 simp [flg]
theorem vals_step {l : List CellD} {i : Nat} {c : CellD} (hc : l[i]? = some c) : vals (l.take (i + 1)) = if c.k = 0 then vals (l.take i) else vals (l.take i) ++ [c]:=by
 have hti : l.take (i + 1) = l.take i ++ [c]:=by rw [List.take_add_one,hc]; rfl
 rw [hti]
 unfold vals
 rw [List.filter_append]
 by_cases h : c.k = 0 <;> simp [h]
theorem f45_loop {β : Type} {k : Nat} {Q : β→Prop} {h0 : AH} {v kv : Value} {l : List CellD} (A : Cells h0 v l) (hl : l.length ≤ 4096) {ke0 : Value→Value→Value→Value→Value→Value→Value→AH→Option β} (n : Nat) :
  ∀ {i j : Nat} {h : AH} {nv sv : Value},i + n = l.length→n < j→Stt prog h0.n h0 h [] [(nv,1,brows (flx l i)),(sv,3,crows (vals (l.take i)))] →
   (∀ h' nv' sv' y1 y2,Stt prog h0.n h0 h' [] [(nv',1,brows (flg l)),(sv',3,crows (vals l))]→Tl (ke0 kv nv' sv' v (.int .i64 l.length) y1 y2 h') Q) →
   Tl (F45_lrlrrrr (eInv env k) k j kv nv sv v (.int .i64 l.length) (.int .i64 i) h ke0) Q:=by
 induction n with
 | zero =>
  intro i j h nv sv hi hj T hk
  obtain ⟨j,rfl⟩ : ∃ q,j = q + 1:=⟨j - 1,by omega⟩
  simp only [F45_lrlrrrr]
  with_reducible repeat (first | (apply qzV; simp (disch:=omega) only [zA,bzS5.1] <;> rfl) | apply qzT | apply qzF | (apply qzB; simp (disch:=omega) only [zA,bzS5.1] <;> rfl))
  have e1 : flx l i = flg l:=by unfold flx; rw [List.take_of_length_le (by omega),show l.length - i = 0 by omega]; simp
  rw [e1,List.take_of_length_le (by omega)] at T
  exact hk _ _ _ _ _ T
 | succ n ih =>
  intro i j h nv sv hi hj T hk
  obtain ⟨j,rfl⟩ : ∃ q,j = q + 1:=⟨j - 1,by omega⟩
  obtain ⟨c,hc⟩ : ∃ c,l[i]? = some c:=⟨_,List.getElem?_eq_getElem (by omega)⟩
  obtain ⟨b,o,hx,hr⟩:=(A.grow T.grow).at_ hc
  have e : (i : Int) + 1 = ((i + 1 : Nat) : Int):=by omega
  have hfl:=flx_len (l:=l) (i:=i) (by omega)
  obtain ⟨bm,em,hm⟩:=T.idx (t:=92) 0 rfl (kd:=.i64) (j:=i) (by rw [brows_len]; omega) u92 sz4
  have hvs:=vals_step hc
  have hvl : (vals (l.take i)).length ≤ 4096:=by have:=vals_le (l.take i); rw [List.length_take] at this; omega
  simp only [F45_lrlrrrr]
  unfold F45_lrrllrlrrrr
  with_reducible repeat (first | (apply qzV; simp (disch:=omega) only [zA,bzS5.1,hx,hr] <;> rfl) | apply qzT | apply qzF | (apply qzB; simp (disch:=omega) only [zA,bzS5.1,hx,hr] <;> rfl))
  refine Tl.alloc' T ze39 rfl fun b4 h1 T1 _=>?_
  refine Tl.store' T1 0 rfl sz39 rfl rfl (of_decide_eq_true rfl) fun h2 T2 _=>?_
  have T2 : Stt prog h0.n h0 h2 [Cr b4 c] [(nv,1,brows (flx l i)),(sv,3,crows (vals (l.take i)))]:=T2
  obtain ⟨_,k4,_⟩:=c_at T2 0 rfl
  have dc : (c.k == 0) = decide (c.k = 0):=by by_cases q : c.k = 0 <;> simp [q]
  with_reducible repeat (first | (apply qzV; simp (disch:=omega) only [zA,bzS5.1,k4,hm,dc] <;> rfl) | apply qzT | apply qzF | (apply qzB; simp (disch:=omega) only [zA,bzS5.1,k4,hm,dc] <;> rfl))
  refine Tl.setAt T2 0 rfl em (by rw [brows_len]; omega) rfl sz4 rfl fun h3 T3=>?_
  have e3 : (brows (flx l i)).set i (Value.bool (decide (c.k = 0))).cells.toList = brows (flx l (i + 1)):=by rw [← flx_set hc]; simp [brows,bv,List.map_set,Value.cells]
  have T3 : Stt prog h0.n h0 h3 [Cr b4 c] [(nv,1,brows (flx l (i + 1))),(sv,3,crows (vals (l.take i)))]:=by rw [← e3]; exact T3
  have gi : (flx l (i + 1))[i]? = some (decide (c.k = 0)):=by rw [← flx_set hc,List.getElem?_set_self (by omega)]
  obtain ⟨b5,o5,hp5,hc5⟩:=Sl1.at_ (T3.sl1 (f:=bv) 0 rfl) (t:=92) (k:=.i64) gi u92 sz4
  have hc5:=hc5 h3 (Grow.refl _)
  obtain ⟨r4,_⟩:=c_at T3 0 rfl
  by_cases q : c.k = 0
  ·rw [if_pos q] at hvs
   have qd:=decide_eq_true q
   rw [qd] at hc5
   unfold bv at hc5
   with_reducible repeat (first | (apply qzV; simp (disch:=omega) only [zA,bzS5.1,hp5,hc5] <;> rfl) | apply qzT | apply qzF | (apply qzB; simp (disch:=omega) only [zA,bzS5.1,hp5,hc5] <;> rfl))
   rw [e]
   refine ih (by omega) (by omega) ?_ hk
   rw [hvs]
   exact T3.drop
  ·rw [if_neg q] at hvs
   have qd:=decide_eq_false q
   rw [qd] at hc5
   unfold bv at hc5
   with_reducible repeat (first | (apply qzV; simp (disch:=omega) only [zA,bzS5.1,hp5,hc5,r4] <;> rfl) | apply qzT | apply qzF | (apply qzB; simp (disch:=omega) only [zA,bzS5.1,hp5,hc5,r4] <;> rfl))
   refine Tl.push T3 1 rfl appCs (bsCs _ _) rfl rfl (by rw [crows_len]; omega) fun sv' h5 T5=>?_
   with_reducible repeat (first | (apply qzV; simp (disch:=omega) only [zA,bzS5.1] <;> rfl) | apply qzT | apply qzF | (apply qzB; simp (disch:=omega) only [zA,bzS5.1] <;> rfl))
   rw [e]
   refine ih (by omega) (by omega) ?_ hk
   rw [hvs]
   have e5 : crows (vals (l.take i)) ++ [crow c] = crows (vals (l.take i) ++ [c]):=by simp [crows]
   rw [← e5]
   exact T5.drop
end Go.Proofs.YtlbmlncdjkdoaaaGreat.Sh
/- What 'segment.Put' comes to: the whole. -/
set_option linter.unusedVariables false
set_option linter.unusedSimpArgs false
set_option maxRecDepth 100000
namespace Go.Proofs.YtlbmlncdjkdoaaaGreat.Sh
open Go Go.RowKit Go.Proofs.Ev Go.Lib
open Tryz (prog)
def bzS6:=PLift.up (ai @ld3 (ai @ld2 (ai @ld9 (ai @ld4 (ai @ld39 (ai @fa39_0 (ai @fa39_1 (ai @fa39_2 (ai (fun a h=>conv_int (a:=a) (h:=h) u3 u5) (ai @aggC (ai @ex2_0 (ai @ex2_1 (@Nat.add_zero)))))))))))))
/-! ### What is put -/
def oneB (kind : Int) (c : CellD) : List Nat:=if kind = 1 then oneN c else if kind = 2 then oneT c else oneW c
def cellsE (kind : Int) (l : List CellD) : Int:=if kind = 1 then 0 else if kind = 2 then Pk.putE (valsT l) 1 else checkT (valsW l)
def cellsB (kind : Int) (l : List CellD) : List Nat:=if kind = 1 then putI (valsN l) else if kind = 2 then Pk.putL (valsT l) 1 else putT (valsW l)
def tailB (kind : Int) (l : List CellD) : List Nat:=if l = [] then [] else (oneB kind (ofZ l).mn ++ oneB kind (ofZ l).mx) ++ cellsB kind l
def segB (kind : Int) (l : List CellD) : List Nat:=[kind.toNat] ++ putV (flg l) ++ tailB kind (vals l)
def goodC (kind : Int) (c : CellD) : Prop:=c.k = kind ∧ cellE c = 0
theorem and1_01 (i : Int) : and1 i = 0 ∨ and1 i = 1:=by
 unfold and1
 have h : (BitVec.ofInt 64 i &&& BitVec.ofInt 64 1).toNat ≤ 1:=by
  rw [BitVec.toNat_and]
  have : (BitVec.ofInt 64 1).toNat = 1:=by decide
  rw [this,Nat.and_one_is_mod]
  omega
 generalize (BitVec.ofInt 64 i &&& BitVec.ofInt 64 1).toNat = n at h
 have : n = 0 ∨ n = 1:=by omega
 rcases this with rfl | rfl
 ·exact .inl (by decide)
 ·exact .inr (by decide)
theorem cellE_size {c : CellD} (h : cellE c = 0) : c.s.size ≤ 65536:=by
 unfold cellE at h
 split at h
 ·cases h
 ·omega
theorem cellE_bare {c : CellD} (h : cellE c = 0) : bare c = c:=by
 unfold cellE at h
 split at h
 ·cases h
 ·split at h
  ·split at h
   ·assumption
   ·cases h
  ·cases h
theorem good_bool {c : CellD} (h : goodC 2 c) : c.i = 0 ∨ c.i = 1:=by
 have hb:=cellE_bare h.2
 unfold bare at hb
 rw [if_neg (by rw [h.1]; decide),if_neg (by rw [h.1]; decide),if_pos h.1] at hb
 have : and1 c.i = c.i:=congrArg CellD.i hb
 have h2:=and1_01 c.i
 rw [this] at h2
 exact h2
theorem chkE_all {kind : Int} : ∀ {l : List CellD},chkE kind l = 0 ↔ ∀ c ∈ l,cellE c = 0 ∧ (c.k = kind ∨ c.k = 0)
 | []=>by simp [chkE]
 | c :: l=>by
  have ih:=chkE_all (kind:=kind) (l:=l)
  unfold chkE
  by_cases h1 : cellE c = 0
  ·rw [if_neg (by simpa using h1)]
   by_cases h2 : c.k ≠ kind ∧ c.k ≠ 0
   ·rw [if_pos h2]
    simp only [List.mem_cons,forall_eq_or_imp]
    constructor
    ·intro q; cases q
    ·rintro ⟨⟨_,q | q⟩,_⟩
     ·exact absurd q h2.1
     ·exact absurd q h2.2
   ·rw [if_neg h2,ih]
    simp only [List.mem_cons,forall_eq_or_imp]
    have : c.k = kind ∨ c.k = 0:=by
     by_cases q : c.k = kind
     ·exact .inl q
     ·exact .inr (Classical.not_not.1 fun q2=>h2 ⟨q,q2⟩)
    exact ⟨fun q=>⟨⟨h1,this⟩,q⟩,fun q=>q.2⟩
  ·rw [if_pos h1]
   simp only [List.mem_cons,forall_eq_or_imp]
   exact ⟨fun q=>absurd q h1,fun q=>absurd q.1.1 h1⟩
theorem segE_zero {kind : Int} {l : List CellD} : segE kind l = 0 ↔ (1 ≤ kind ∧ kind ≤ 3) ∧ l.length ≤ 4096 ∧ ∀ c ∈ l,cellE c = 0 ∧ (c.k = kind ∨ c.k = 0):=by
 unfold segE
 by_cases p : 1 ≤ kind ∧ kind ≤ 3
 ·rw [if_pos p]
  by_cases q : l.length > 4096
  ·rw [if_pos q]
   constructor
   ·intro h; cases h
   ·intro h; omega
  ·rw [if_neg q,chkE_all]
   exact ⟨fun h=>⟨p,by omega,h⟩,fun h=>h.2.2⟩
 ·rw [if_neg p]
  constructor
  ·intro h; cases h
  ·intro h; exact absurd h.1 p
theorem good_vals {kind : Int} {l : List CellD} (h : ∀ c ∈ l,cellE c = 0 ∧ (c.k = kind ∨ c.k = 0)) : ∀ c ∈ vals l,goodC kind c:=fun c hc=>by
 have hm : c ∈ l ∧ c.k ≠ 0:=by simpa [vals] using hc
 obtain ⟨h1,h2⟩:=h c hm.1
 exact ⟨h2.resolve_right hm.2,h1⟩
theorem cellsE_zero {kind : Int} (hk : 1 ≤ kind ∧ kind ≤ 3) {l : List CellD} (hl : l.length ≤ 4096) (h : ∀ c ∈ l,goodC kind c) : cellsE kind l = 0:=by
 unfold cellsE
 by_cases p1 : kind = 1
 ·rw [if_pos p1]
 rw [if_neg p1]
 by_cases p2 : kind = 2
 ·rw [if_pos p2]
  refine Pk.putE_of (W:=1) (by simp [valsT]; omega) (by omega) ((Pk.width_le _ _).2 fun x hx=>?_)
  obtain ⟨c,hc,rfl⟩:=List.mem_map.1 hx
  have:=good_bool (p2 ▸ h c hc)
  unfold toU
  omega
 rw [if_neg p2]
 unfold checkT
 rw [if_pos]
 rw [mayT_spec]
 refine ⟨by simp [valsW]; omega,fun x hx=>?_⟩
 obtain ⟨c,hc,rfl⟩:=List.mem_map.1 hx
 exact cellE_size (h c hc).2
theorem putI_le {l : List Int} (hl : l.length ≤ 4096) : (putI l).length ≤ 11 + 8 * l.length:=by
 have h1 : (plainB l).length ≤ 11 + 8 * l.length:=by
  unfold plainB headB
  have:=pvarN_le10 (n:=l.length) (by omega)
  simp only [List.length_append,List.length_cons,flat8_len]
  omega
 unfold putI
 simp only
 split <;> split <;> omega
theorem cellsB_len {kind : Int} (hk : 1 ≤ kind ∧ kind ≤ 3) {l : List CellD} (hl : l.length ≤ 4096) : (cellsB kind l).length ≤ 2 ^ 31:=by
 unfold cellsB
 split
 ·have e : (valsN l).length = l.length:=List.length_map ..
  have:=putI_le (l:=valsN l) (by omega)
  omega
 ·split
  ·unfold Pk.putL
   split
   ·have:=(putN_spec (1 : Int).toNat (valsT l)).2.1
    have e : (valsT l).length = l.length:=List.length_map ..
    rw [this,e]
    have : (1 : Int).toNat = 1:=rfl
    rw [this]
    omega
   ·simp
  ·unfold putT
   split
   ·rename_i h
    have:=plainT_le h
    split <;> omega
   ·simp
theorem mn_mem {l : List CellD} (hl : l.length ≤ 4096) (hv : ∀ c ∈ l,c.k ≠ 0) (h : l ≠ []) : (ofZ l).mn ∈ l ∧ (ofZ l).mx ∈ l:=by
 have e : vals l = l:=by unfold vals; rw [List.filter_eq_self]; intro c hc; simpa using hv c hc
 rw [ofZ_rep l (by omega),e]
 exact ⟨(mnL_spec h).1,(mxL_spec h).1⟩
/-! ### The walk -/
section
variable {n0 : Nat} {h0 h : AH} {L : List (Nat × AO)} {O : List OS}
theorem segcells_c {k : Nat} {h : AH} {v : Value} {kind : Int} (hk : 1 ≤ kind ∧ kind ≤ 3) {l : List CellD} (A : Cells h v l) (hl : l.length ≤ 4096) (hk2 : 4096 < k) :
  Tl (eInv env (k + 602) (.method "shadowbook/segment.cells") #[] #[codV kind, v] h) fun r => ∃ o, r.1 = .tuple #[o, .int .i64 (cellsE kind l)] ∧ Stt prog h.n h r.2 [] [(o, 1, u8rows (cellsB kind l))] := by
 have h : kind = 1 ∨ kind = 2 ∨ kind = 3:=by omega
 rcases h with rfl | rfl | rfl
 ·exact cellsN_c A hl hk2
 ·exact cellsT_c A hl hk2
 ·exact cellsW_c A hl hk2
theorem segzone_c {k : Nat} {v : Value} {l : List Nat} {kind : Int} (hk : 1 ≤ kind ∧ kind ≤ 3) (z : ZoneD) (hc : z.mn.s.size ≤ 2 ^ 20) (hd : z.mx.s.size ≤ 2 ^ 20) (hl : l.length ≤ 2 ^ 26) (S : Stt prog n0 h0 h L ((v,1,u8rows l) :: O)) :
  Tl (eInv env (k + 31) (.method "shadowbook/segment.zone") #[] #[codV kind, v, zv z] h) fun r => Stt prog n0 h0 r.2 L ((r.1, 1, u8rows (l ++ (oneB kind z.mn ++ oneB kind z.mx))) :: O) := by
 have h : kind = 1 ∨ kind = 2 ∨ kind = 3:=by omega
 rcases h with rfl | rfl | rfl
 ·exact zoneN_c z hl S
 ·exact zoneT_c z hl S
 ·exact zoneW_c z hc hd hl S
/-- One's own slices in another order. -/
theorem permO {P : Program} {n0 : Nat} {h0 h : AH} {L : List (Nat × AO)} {O O' : List OS} (S : Stt P n0 h0 h L O) (hs : O.Perm O') : Stt P n0 h0 h L O':=by
 have hp : O.Pairwise fun x y=>∀ b,blkOf x.1 = some b→¬ blkOf y.1 = some b:=by
  rw [List.pairwise_iff_getElem]
  intro i j hi hj hij b h1 h2
  have:=S.apart i j _ _ b (List.getElem?_eq_getElem hi) (List.getElem?_eq_getElem hj) h1 h2
  omega
 have hp2:=List.pairwise_iff_getElem.1 ((hs.pairwise_iff (fun {x y} h b h1 h2=>h b h2 h1)).1 hp)
 refine ⟨S.sta,fun o ho=>S.own o (hs.mem_iff.2 ho),fun i j x y b hi hj h1 h2=>?_⟩
 obtain ⟨l1,rfl⟩:=List.getElem?_eq_some_iff.1 hi
 obtain ⟨l2,rfl⟩:=List.getElem?_eq_some_iff.1 hj
 rcases Nat.lt_trichotomy i j with q | q | q
 ·exact (hp2 i j l1 l2 q b h1 h2).elim
 ·exact q
 ·exact (hp2 j i l2 l1 q b h2 h1).elim
def mkZ (kind : Int) : Value := .func (.method "shadowbook/segment.zone") #[codV kind] #[]
theorem mkz1 : pMakeFunc (.method "shadowbook/segment.zone") #[codV 1] #[] = some (mkZ 1) := by kernel_rfl
theorem mkz2 : pMakeFunc (.method "shadowbook/segment.zone") #[codV 2] #[] = some (mkZ 2) := by kernel_rfl
theorem mkz3 : pMakeFunc (.method "shadowbook/segment.zone") #[codV 3] #[] = some (mkZ 3) := by kernel_rfl
theorem ncz1 : pNilCheck prog (mkZ 1) = some (mkZ 1):=by kernel_rfl
theorem ncz2 : pNilCheck prog (mkZ 2) = some (mkZ 2):=by kernel_rfl
theorem ncz3 : pNilCheck prog (mkZ 3) = some (mkZ 3):=by kernel_rfl
theorem mkz {kind : Int} (hk : 1 ≤ kind ∧ kind ≤ 3) : pMakeFunc (.method "shadowbook/segment.zone") #[codV kind] #[] = some (mkZ kind) ∧ pNilCheck prog (mkZ kind) = some (mkZ kind) := by
 have h : kind = 1 ∨ kind = 2 ∨ kind = 3:=by omega
 rcases h with rfl | rfl | rfl
 ·exact ⟨mkz1,ncz1⟩
 ·exact ⟨mkz2,ncz2⟩
 ·exact ⟨mkz3,ncz3⟩
end
theorem f45c {k : Nat} {h : AH} {v : Value} {l : List CellD} (kind : Int) (A : Cells h v l) (hl : l.length ≤ 9223372036854775807) (hk : 4200 < k) :
  Tl (eInv env (k + 701) (.func 45) #[] #[.int .i64 kind,v] h) fun r=>r.1 = .tuple #[.string (strB (if segE kind l = 0 then segB kind l else [])),.int .i64 (segE kind l)] ∧ Grow h r.2:=by
 rw [F45_call]
 unfold F45
 have hv : ∀ h' : AH,pLen prog #[34] v h' = some (.int .i64 l.length):=fun h'=>A.len
 with_reducible refine Tl.call' (Stt.init (P:=prog) h) (f68c (k:=k + 697) kind A hl (by omega)) fun h1 S1 _=>?_
 by_cases e0 : ¬ segE kind l = 0
 ·rw [if_neg e0]
  with_reducible repeat (first | (apply qzV; simp (disch:=omega) only [zA,bzS6.1] <;> rfl) | apply qzT | apply qzF | (apply qzB; simp (disch:=omega) only [zA,bzS6.1] <;> rfl))
  exact ⟨_,rfl,rfl,S1.grow⟩
 have e0 : segE kind l = 0:=Classical.not_not.1 e0
 rw [if_pos e0]
 obtain ⟨hkd,hl4,hall⟩:=segE_zero.1 e0
 rw [e0]
 with_reducible repeat (first | (apply qzV; simp (disch:=omega) only [zA,bzS6.1,hv] <;> rfl) | apply qzT | apply qzF | (apply qzB; simp (disch:=omega) only [zA,bzS6.1,hv] <;> rfl))
 refine Tl.make' (S1.nil 3) app92 ze4 (by omega) (by omega) fun nv h2 S2 g2=>?_
 have S2 : Stt prog h.n h h2 [] [(nv,1,brows (flx l 0)),(.slice none 0 0,3,crows (vals (l.take 0)))]:=by
  have e : brows (flx l 0) = List.replicate l.length [.bool false]:=by simp [flx,flg,brows,bv]
  rw [e]
  exact S2
 with_reducible repeat (first | (apply qzV; simp (disch:=omega) only [zA,bzS6.1,hv] <;> rfl) | apply qzT | apply qzF | (apply qzB; simp (disch:=omega) only [zA,bzS6.1,hv] <;> rfl))
 refine f45_loop (i:=0) A hl4 l.length (by omega) (by omega) S2 fun h3 nv sv y1 y2 S3=>?_
 have hfl : (flg l).length = l.length:=List.length_map ..
 have hvl:=vals_le l
 refine Tl.bind (f69c (k:=k + 200) (S3.sl1 (f:=bv) 0 rfl) (by omega) (by omega)) ?_
 rintro ⟨r,h4⟩ ⟨ov,er,g4,X⟩
 simp only at er g4 X
 subst er
 have S4:=S3.gain g4 X
 have ek : IntKind.u8.wrap kind = ((kind.toNat : Nat) : Int):=by rw [wrap_u8]; omega
 have hpl:=putV_len (l:=flg l) (by omega)
 with_reducible repeat (first | (apply qzV; simp (disch:=omega) only [zA,bzS6.1,ek,bs93] <;> rfl) | apply qzT | apply qzF | (apply qzB; simp (disch:=omega) only [zA,bzS6.1,ek,bs93] <;> rfl))
 have S5:=Stt.absorb (n:=1) (rows:=[[.int .u8 ((kind.toNat : Nat) : Int)]]) (S4.alloc (.cells [.int .u8 ((kind.toNat : Nat) : Int)] 5 true)) (by simp) sz5
 refine Tl.append' S5 0 rfl app93 (S5.slV 1 rfl) (one_u8rows _) (by rw [u8rows_len]; simp; omega) fun xv h6 S6=>?_
 have S6 : Stt prog h.n h h6 [] [(xv,1,u8rows ([kind.toNat] ++ putV (flg l))),(ov,1,u8rows (putV (flg l))),(nv,1,brows (flg l)),(sv,3,crows (vals l))]:=by
  have e : [[Value.int .u8 ((kind.toNat : Nat) : Int)]] ++ u8rows (putV (flg l)) = u8rows ([kind.toNat] ++ putV (flg l)):=by simp [u8rows,u8v]
  rw [← e]; exact S6
 have A6 : Cells h6 sv (vals l):=(S6.slV 3 rfl).z
 have hv6 : ∀ h' : AH,pLen prog #[34] sv h' = some (.int .i64 (vals l).length):=fun h'=>A6.len
 by_cases q : vals l = []
 ·have eb : segB kind l = [kind.toNat] ++ putV (flg l):=by unfold segB tailB; rw [if_pos q]; simp
  have cb:=convB (S6.sl1 (f:=u8v) (l:=[kind.toNat] ++ putV (flg l)) 0 rfl)
  rw [q] at hv6
  with_reducible repeat (first | (apply qzV; simp (disch:=omega) only [zA,bzS6.1,hv6,cb,List.length_nil] <;> rfl) | apply qzT | apply qzF | (apply qzB; simp (disch:=omega) only [zA,bzS6.1,hv6,cb,List.length_nil] <;> rfl))
  exact ⟨_,rfl,by rw [eb],S6.grow⟩
 have qn : (vals l).length ≠ 0:=fun z=>q (List.length_eq_zero_iff.1 z)
 with_reducible repeat (first | (apply qzV; simp (disch:=omega) only [zA,bzS6.1,hv6] <;> rfl) | apply qzT | apply qzF | (apply qzB; simp (disch:=omega) only [zA,bzS6.1,hv6] <;> rfl))
 with_reducible refine Tl.call' S6 (f70c (k:=k + 698) kind h6) fun h7 S7 g7=>?_
 have hgood:=good_vals hall
 refine Tl.bind (segcells_c (k:=k + 98) hkd (A6.grow g7) (by omega) (by omega)) ?_
 rintro ⟨r,h8⟩ ⟨cv,er,X8⟩
 simp only at er X8
 subst er
 have S8:=S7.join X8
 have g8:=X8.grow
 have ec : cellsE kind (vals l) = 0:=cellsE_zero hkd (by omega) hgood
 rw [ec]
 with_reducible repeat (first | (apply qzV; simp (disch:=omega) only [zA,bzS6.1] <;> rfl) | apply qzT | apply qzF | (apply qzB; simp (disch:=omega) only [zA,bzS6.1] <;> rfl))
 with_reducible refine Tl.call' S8 (f71c (k:=k + 687) (Cells.grow (A6.grow g7) g8) (by omega) (by omega)) fun h9 S9 g9=>?_
 obtain ⟨mf,nc⟩:=mkz hkd
 with_reducible repeat (first | (apply qzV; simp (disch:=omega) only [zA,bzS6.1,mf,nc] <;> rfl) | apply qzT | apply qzF | (apply qzB; simp (disch:=omega) only [zA,bzS6.1,mf,nc] <;> rfl))
 have hk0 : ∀ c ∈ vals l,c.k ≠ 0:=fun c hc=>by
  have : c ∈ l ∧ c.k ≠ 0:=by simpa [vals] using hc
  exact this.2
 obtain ⟨m1,m2⟩:=mn_mem (l:=vals l) (by omega) hk0 q
 have s1:=cellE_size (hgood _ m1).2
 have s2:=cellE_size (hgood _ m2).2
 refine Tl.bind (segzone_c (k:=k + 669) hkd (ofZ (vals l)) (by omega) (by omega) (by simp; omega) (permO S9 (.swap ..))) ?_
 rintro ⟨zvv,h10⟩ S10
 have hcl:=cellsB_len hkd (l:=vals l) (by omega)
 have hone : ∀ c : CellD,c.s.size ≤ 65536→(oneB kind c).length ≤ 2 ^ 21:=fun c hc=>by
  unfold oneB
  split
  ·exact lenN c
  ·split
   ·exact lenT c
   ·exact lenW c (by omega)
 have o1:=hone _ s1
 have o2:=hone _ s2
 refine Tl.append' S10 0 rfl app93 (S10.slV 1 rfl) (one_u8rows _) (by rw [u8rows_len,u8rows_len]; simp only [List.length_append,List.length_cons,List.length_nil]; omega) fun wv h11 S11=>?_
 have eb : u8rows ([kind.toNat] ++ putV (flg l) ++ (oneB kind (ofZ (vals l)).mn ++ oneB kind (ofZ (vals l)).mx)) ++ u8rows (cellsB kind (vals l)) = u8rows (segB kind l):=by
  unfold segB tailB
  rw [if_neg q]
  simp [u8rows]
 rw [eb] at S11
 have cb:=convB (S11.sl1 (f:=u8v) (l:=segB kind l) 0 rfl)
 with_reducible repeat (first | (apply qzV; simp (disch:=omega) only [zA,bzS6.1,cb] <;> rfl) | apply qzT | apply qzF | (apply qzB; simp (disch:=omega) only [zA,bzS6.1,cb] <;> rfl))
 exact ⟨_,rfl,rfl,S11.grow⟩
end Go.Proofs.YtlbmlncdjkdoaaaGreat.Sh
/- The document's answer for packs: bits, Width, Size, Put, Get. -/
set_option linter.unusedVariables false
set_option linter.unusedSimpArgs false
set_option maxRecDepth 100000
namespace Go.Proofs.YtlbmlncdjkdoaaaGreat.Sh.Pk
open Go Go.RowKit Go.Proofs.Ev Go.Proofs.YtlbmlncdjkdoaaaGreat.Sh
open Tryz (prog)
/-- The state within 'Put': the bytes so far. -/
structure RP (h0 h : AH) (out : Value) (b S : Nat) (bs : List Nat) : Prop where
 sta : Sta h0.n h0 h []
 row : SlX prog h out 1 b ((ints bs).map brow)
 hb : h0.n ≤ b
 len : bs.length = S
 small : ∀ x ∈ bs,x < 256
/-- A bit of the bytes, as the code reads it. -/
structure BitAt (h : AH) (v : Value) (bs : List Nat) (p : Nat) : Prop where
 wq : IntKind.i64.wrap (((p : Nat) : Int).tdiv 8) = ((p / 8 : Nat) : Int)
 wr : ((p : Nat) : Int).tmod 8 = ((p % 8 : Nat) : Int)
 wc : IntKind.u64.wrap ((p % 8 : Nat) : Int) = ((p % 8 : Nat) : Int)
 at_ : ∃ (b o x : Nat),pIndexAddr prog 93 v (.int .i64 ((p / 8 : Nat) : Int)) = some (.pointer (some ⟨b,o,none⟩)) ∧ h.cell b o = some (.int .u8 (x : Int)) ∧ (∀ (y z : Operand),pBin prog .shr 5 y z (.int .u8 (x : Int)) (.int .u64 ((p % 8 : Nat) : Int)) = some (.int .u8 ((x / 2 ^ (p % 8) : Nat) : Int))) ∧
  ((x / 2 ^ (p % 8) : Nat) : Int).tmod 2 = ((byN bs / 2 ^ p % 2 : Nat) : Int)
end Go.Proofs.YtlbmlncdjkdoaaaGreat.Sh.Pk
/- The document's answer for the octet's package. -/
set_option linter.unusedVariables false
set_option linter.unusedSimpArgs false
set_option maxRecDepth 100000
namespace Go.Proofs.YtlbmlncdjkdoaaaGreat.Sh
open Go Go.RowKit Go.Proofs.Ev
/-! ### Put, of any length and of eight bytes -/
section
variable {n0 : Nat} {h0 h : AH} {L : List (Nat × AO)} {O : List OS} {i br : Nat} {rv : Value} {rest : List Nat}
end
end Go.Proofs.YtlbmlncdjkdoaaaGreat.Sh
/- The document's answer for flags: 'Count', 'Put'. -/
set_option linter.unusedVariables false
set_option linter.unusedSimpArgs false
set_option maxRecDepth 100000
namespace Go.Proofs.YtlbmlncdjkdoaaaGreat.Sh
open Go Go.RowKit Go.Proofs.Ev
end Go.Proofs.YtlbmlncdjkdoaaaGreat.Sh
/- A place that is picked: 'Pick'. -/
set_option linter.unusedVariables false
set_option linter.unusedSimpArgs false
set_option maxRecDepth 100000
namespace Go.Proofs.YtlbmlncdjkdoaaaGreat.Sh
open Go Go.RowKit Go.Proofs.Ev
open Tryz (prog)
theorem f15c {k : Nat} (z : Int) (hz : -9223372036854775808 ≤ z ∧ z ≤ 9223372036854775807) {n : Nat} (h0 : 1 ≤ n) (h1 : n ≤ 9223372036854775807) (h : AH) : ∃ c : Nat,c < n ∧ eInv env (k + 1) (.func 15) #[] #[.int .i64 z,.int .i64 n] h = some (.int .i64 c,h):=by
 have hr : ∀ t x y,pBin prog .rem t x y (.int .i64 z) (.int .i64 n) = some (.int .i64 (z.tmod n)):=fun t x y=>bin_rem (by omega)
 have b1 : z.tmod n < n:=Int.tmod_lt_of_pos z (by omega)
 have b2 : -(n : Int) < z.tmod n:=by
  have:=Int.neg_tmod z n
  have h2:=Int.tmod_lt_of_pos (-z) (show (0 : Int) < n by omega)
  rw [this] at h2
  omega
 rw [F15_call]
 by_cases q : z.tmod n < 0
 ·refine ⟨(z.tmod n + n).toNat,by omega,?_⟩
  have e : ((z.tmod n + n).toNat : Int) = z.tmod n + n:=by omega
  have T : Tl (F15 (eInv env k) k (.int .i64 z) (.int .i64 n) h) fun r=>r = (.int .i64 ((z.tmod n + n).toNat : Nat),h):=by
   unfold F15
   with_reducible repeat (first | (apply qzV; simp (disch:=omega) only [zA,hr,ld3] <;> rfl) | apply qzT | apply qzF | (apply qzB; simp (disch:=omega) only [zA,hr,ld3] <;> rfl))
   simp only [F15_rlrrr]
   with_reducible repeat (first | (apply qzV; simp (disch:=omega) only [zA] <;> rfl) | apply qzT | apply qzF | (apply qzB; simp (disch:=omega) only [zA] <;> rfl))
   exact ⟨_,rfl,by rw [e]⟩
  obtain ⟨r,h1,h2⟩:=T
  rw [h1,h2]
 ·refine ⟨(z.tmod n).toNat,by omega,?_⟩
  have e : ((z.tmod n).toNat : Int) = z.tmod n:=by omega
  have T : Tl (F15 (eInv env k) k (.int .i64 z) (.int .i64 n) h) fun r=>r = (.int .i64 ((z.tmod n).toNat : Nat),h):=by
   unfold F15
   with_reducible repeat (first | (apply qzV; simp (disch:=omega) only [zA,hr,ld3] <;> rfl) | apply qzT | apply qzF | (apply qzB; simp (disch:=omega) only [zA,hr,ld3] <;> rfl))
   simp only [F15_rlrrr]
   with_reducible repeat (first | (apply qzV; simp (disch:=omega) only [zA] <;> rfl) | apply qzT | apply qzF | (apply qzB; simp (disch:=omega) only [zA] <;> rfl))
   exact ⟨_,rfl,by rw [e]⟩
  obtain ⟨r,h1,h2⟩:=T
  rw [h1,h2]
end Go.Proofs.YtlbmlncdjkdoaaaGreat.Sh
/- 'SegmentNulls': what is put, without the program; texts cut. -/
set_option linter.unusedVariables false
set_option linter.unusedSimpArgs false
set_option maxRecDepth 100000
namespace Go.Proofs.YtlbmlncdjkdoaaaGreat.Sh
open Go Go.RowKit Go.Proofs.Ev Go.Lib
open Tryz (prog)
/-! ### Texts cut -/
theorem strB_size (l : List Nat) : (strB l).size = l.length:=by
 show (l.map UInt8.ofNat).toArray.size = l.length
 simp
theorem strB_cut (l : List Nat) (a b : Nat) : (strB l).extract a b = strB ((l.take b).drop a):=by
 apply ByteArray.ext
 unfold strB
 rw [ByteArray.data_extract]
 apply Array.ext'
 simp [List.map_drop,List.map_take,List.drop_take]
theorem cut_lo {l : List Nat} {a : Nat} (ha : a ≤ l.length) (h : AH) : pSlice prog 9 (.string (strB l)) (some (.int .i64 (a : Int))) none none h = some (.string (strB (l.drop a))):=by
 unfold pSlice
 have h1 : intOr 0 (some (.int .i64 (a : Int))) = some (a : Int):=rfl
 have h2 : intOr ((strB l).size : Int) none = some ((strB l).size : Int):=rfl
 simp only [u9,h1,h2]
 rw [strB_size,if_pos ⟨by omega,by omega,by omega⟩,strB_cut]
 simp
/-! ### Columns of nulls -/
/-! ### Nulls between cells -/
def more (V : List CellD) : List CellD:=V.flatMap fun c=>[c,c0]
def wd (n : Nat) : List Bool:=(List.replicate n [false,true]).flatten
theorem vals_self {V : List CellD} (h : ∀ c ∈ V,c.k ≠ 0) : vals V = V:=by
 unfold vals
 rw [List.filter_eq_self]
 intro c hc
 simpa using h c hc
theorem vals_ne {l : List CellD} : ∀ c ∈ vals l,c.k ≠ 0:=fun c hc=>by
 have : c ∈ l ∧ c.k ≠ 0:=by simpa [vals] using hc
 exact this.2
end Go.Proofs.YtlbmlncdjkdoaaaGreat.Sh
/- 'slices.Repeat' of one number. -/
set_option linter.unusedVariables false
set_option linter.unusedSimpArgs false
set_option maxRecDepth 100000
namespace Go.Proofs.YtlbmlncdjkdoaaaGreat.Sh
open Go Go.RowKit Go.Proofs.Ev
open Tryz (prog)
def bzIr:=PLift.up (ai @ld3 (ai @ld2 (ai @ld121 (ai @ld163 (ai (fun a h=>conv_int (a:=a) (h:=h) u3 u121) (ai (fun a h=>conv_int (a:=a) (h:=h) u121 u3) (ai (fun a h=>conv_int (a:=a) (h:=h) u3 u101) (ai (fun a h=>conv_int (a:=a) (h:=h) u101 u3) (ai @ex2_0 (@ex2_1))))))))))
theorem andm (a : Nat) (ha : a < 4294967296) : ∀ t x y,pBin prog Go.BinOp.and t x y (.int .u64 (a : Int)) (.int .u64 4294967295) = some (.int .u64 (a : Int)):=fun t x y=>by
 rw [bin_and]
 have e : IntKind.u64.wrap (BitVec.ofInt 64 (a : Int) &&& BitVec.ofInt 64 4294967295).toNat = (a : Int):=by
  rw [BitVec.toNat_and,ofInt_toNat _ (by omega) (by omega),ofInt_toNat _ (by omega) (by omega)]
  have : a &&& 4294967295 = a:=by
   have:=Nat.and_two_pow_sub_one_eq_mod a 32
   have h2 : (2 : Nat) ^ 32 - 1 = 4294967295:=by decide
   have h3 : (2 : Nat) ^ 32 = 4294967296:=by decide
   rw [h2,h3] at this
   omega
  have h4 : (4294967295 : Int).toNat = 4294967295:=rfl
  rw [Int.toNat_natCast,h4,this,wrap_u64]
  omega
 exact congrArg some (congrArg _ e)
theorem shr32 (a : Nat) (ha : a < 4294967296) : ∀ t x y,pBin prog Go.BinOp.shr t x y (.int .u64 (a : Int)) (.int .u64 32) = some (.int .u64 0):=fun t x y=>by
 rw [shr_nn (by decide)]
 have e : (a : Int).fdiv (2 ^ (min (32 : Int).toNat IntKind.u64.bits)) = 0:=by
  have h2 : min (32 : Int).toNat IntKind.u64.bits = 32:=by decide
  rw [h2,Int.fdiv_eq_ediv_of_nonneg _ (by decide)]
  have : (2 : Int) ^ 32 = 4294967296:=by decide
  rw [this]; omega
 rw [e]
theorem f210c {k : Nat} (n : Nat) (hn : n ≤ 100000) (h : AH) : eInv env (k + 1) (.func 210) #[] #[.int .u64 1,.int .u64 (n : Int)] h = some (.tuple #[.int .u64 0,.int .u64 (n : Int)],h):=by
 have T : Tl (F210 (eInv env k) k (.int .u64 1) (.int .u64 (n : Int)) h) fun r=>r = (.tuple #[.int .u64 0,.int .u64 (n : Int)],h):=by
  unfold F210
  have a1:=andm 1 (by omega)
  have s1:=shr32 1 (by omega)
  have a0:=andm 0 (by omega)
  have s0:=shr32 0 (by omega)
  have an:=andm n (by omega)
  have sn:=shr32 n (by omega)
  have e1 : ((1 : Nat) : Int) = 1:=rfl
  have e0 : ((0 : Nat) : Int) = 0:=rfl
  rw [e1] at a1 s1
  rw [e0] at a0 s0
  with_reducible repeat (first | (apply qzV; simp (disch:=omega) only [zA,bzIr.1,a1,s1,an,sn,a0,s0,Int.one_mul,Int.zero_mul,Int.mul_zero,Int.zero_add,Int.add_zero] <;> rfl) | apply qzT | apply qzF | (apply qzB; simp (disch:=omega) only [zA,bzIr.1,a1,s1,an,sn,a0,s0,Int.one_mul,Int.zero_mul,Int.mul_zero,Int.zero_add,Int.add_zero] <;> rfl))
  exact ⟨_,rfl,rfl⟩
 obtain ⟨r,h1,h2⟩:=T
 rw [F210_call,h1,h2]
theorem f185c {k : Nat} (n : Nat) (hn : n ≤ 100000) (h : AH) : eInv env (k + 2) (.func 185) #[] #[.int .u64 1,.int .u64 (n : Int)] h = some (.tuple #[.int .u64 0,.int .u64 (n : Int)],h):=by
 have T : Tl (F185 (eInv env (k + 1)) (k + 1) (.int .u64 1) (.int .u64 (n : Int)) h) fun r=>r = (.tuple #[.int .u64 0,.int .u64 (n : Int)],h):=by
  unfold F185
  have a1:=f210c (k:=k) n hn h
  with_reducible repeat (first | (apply qzV; simp (disch:=omega) only [zA,bzIr.1,a1] <;> rfl) | apply qzT | apply qzF | (apply qzB; simp (disch:=omega) only [zA,bzIr.1,a1] <;> rfl))
  exact ⟨_,rfl,rfl⟩
 obtain ⟨r,h1,h2⟩:=T
 rw [F185_call,h1,h2]
/-! ### 'slices.Repeat' of one number -/
end Go.Proofs.YtlbmlncdjkdoaaaGreat.Sh
/- What 'Get' of the nulls' package comes to: what it calls. -/
set_option linter.unusedVariables false
set_option linter.unusedSimpArgs false
set_option maxRecDepth 100000
namespace Go.Proofs.YtlbmlncdjkdoaaaGreat.Sh
open Go Go.RowKit Go.Proofs.Ev
open Tryz (prog)
def bzNc:=PLift.up (ai @ld3 (ai @ld4 (ai @ld5 (ai @ld92 (ai @ld24 (ai @ld93 (ai @ld121 (ai @ld124 (ai (fun a h=>conv_int (a:=a) (h:=h) u3 u121) (ai (fun a h=>conv_int (a:=a) (h:=h) u121 u3) (ai (fun a h=>conv_int (a:=a) (h:=h) u3 u101) (ai (fun a h=>conv_int (a:=a) (h:=h) u101 u3) (ai (fun ox oy a b=>bin_eql_bool (ox:=ox) (oy:=oy) (a:=a) (b:=b) u4) (ai (fun ox oy a b=>bin_neq_bool (ox:=ox) (oy:=oy) (a:=a) (b:=b) u4) (ai @ex2_0 (@ex2_1))))))))))))))))
def fillBo (x : Bool) (p m : Nat) : List Value:=(List.replicate p x ++ List.replicate (m - p) false).map bv
theorem fillBo_len (x : Bool) (p m : Nat) (hp : p ≤ m) : (fillBo x p m).length = m:=by simp [fillBo]; omega
theorem fillBo_splice (x : Bool) (p q m : Nat) (h : p + q ≤ m) : splice (fillBo x p m) p ((List.replicate q x).map bv) = fillBo x (p + q) m:=by
 unfold splice fillBo
 rw [List.map_append,List.take_left' (by simp),List.length_map,List.length_replicate,← List.drop_drop,List.drop_left' (by simp),← List.map_drop,List.drop_replicate,← List.map_append,← List.map_append,List.replicate_append_replicate]
 congr 3
 omega
theorem sl22 {h : AH} {b n m lo : Nat} {cs : List Value} (hg : h.get b = some (.cells cs 4 true)) (hlo : lo ≤ n) : pSlice prog 92 (.slice (some ⟨b,0,none⟩) n n) (some (.int .i64 lo)) none none h = some (.slice (some ⟨b,lo,none⟩) (n - lo) (n - lo)) ∧
  pSlice prog 92 (.slice (some ⟨b,0,none⟩) n n) none (some (.int .i64 lo)) none h = some (.slice (some ⟨b,0,none⟩) lo n):=by
 have hm : ∀ d : Int,intOr d (some (.int .i64 (lo : Int))) = some (lo : Int):=fun d=>rfl
 have hm2 : ∀ d : Int,intOr d none = some d:=fun d=>rfl
 have hz : szOk prog (some ⟨b,0,none⟩) 1 h = true:=szOk_of hg sz4
 unfold pSlice
 simp only [el92,Option.bind_some,sz4,hm,hm2]
 rw [if_pos ⟨by omega,by omega,by omega,by omega,by simp,by simp [hz]⟩,if_pos ⟨by omega,by omega,by omega,by omega,by simp,by simp⟩]
 constructor
 ·simp only [Option.map_some,Int.toNat_natCast,Option.some.injEq,Value.slice.injEq,Addr.mk.injEq,true_and,and_true]
  omega
 ·simp
theorem f147_loop {β : Type} {k : Nat} {Q : β→Prop} {n0 : Nat} {h0 : AH} {L : List (Nat × AO)} {O : List OS} {x : Bool} {m b : Nat} (hm : m ≤ 100000) {ke0 : Value→Value→Value→AH→Option β} (n : Nat) :
  ∀ {j p : Nat} {h : AH},p + n = m→n < j→(1 ≤ p ∨ m = 0)→Stt prog n0 h0 h ((b,.cells (fillBo x p m) 4 true) :: L) O →
   (∀ h' y y',Stt prog n0 h0 h' ((b,.cells (fillBo x m m) 4 true) :: L) O→Tl (ke0 (.slice (some ⟨b,0,none⟩) m m) y y' h') Q) →
   Tl (F147_llrrrrrr (eInv env k) k j (.slice (some ⟨b,0,none⟩) m m) (.int .i64 p) h ke0) Q:=by
 induction n using Nat.strongRecOn with
 | _ n ih =>
  intro j p h hp hj h1 S hk
  obtain ⟨j,rfl⟩ : ∃ q,j = q + 1:=⟨j - 1,by omega⟩
  have hlen : ∀ h',pLen prog #[92] (.slice (some ⟨b,0,none⟩) m m) h' = some (.int .i64 m):=fun h'=>len_slice u92
  simp only [F147_llrrrrrr]
  by_cases hn : n = 0
  ·with_reducible repeat (first | (apply qzV; simp (disch:=omega) only [zA,bzNc.1,hlen] <;> rfl) | apply qzT | apply qzF | apply qzG | ((first | apply qzB | apply qzC); simp (disch:=omega) only [zA,bzNc.1,hlen] <;> rfl))
   have : p = m:=by omega
   subst this
   exact hk _ _ _ S
  ·have hg:=S.sta.mem.at_ (i:=0) rfl
   simp only at hg
   obtain ⟨s1,s2⟩:=sl22 (n:=m) (m:=m) (lo:=p) hg (by omega)
   with_reducible repeat (first | (apply qzV; simp (disch:=omega) only [zA,bzNc.1,hlen,s1,s2] <;> rfl) | apply qzT | apply qzF | apply qzG | ((first | apply qzB | apply qzC); simp (disch:=omega) only [zA,bzNc.1,hlen,s1,s2] <;> rfl))
   have hq : min p (m - p) ≤ m - p:=Nat.min_le_right ..
   have hq2 : min p (m - p) ≤ p:=Nat.min_le_left ..
   have hc : cellsOf prog 1 (min p (m - p)) (.slice (some ⟨b,0,none⟩) p m) h = some ((List.replicate (min p (m - p)) x).map bv):=by
    unfold cellsOf
    simp only [Nat.mul_one]
    rw [if_neg (by omega),if_pos hq2]
    unfold AH.row
    rw [hg]
    simp only
    rw [if_pos (by rw [fillBo_len _ _ _ (by omega)]; omega),List.drop_zero]
    unfold fillBo
    rw [← List.map_take,List.take_append_of_le_length (by simp; omega),List.take_replicate,Nat.min_eq_left hq2]
   refine Tl.copy' S 0 rfl el92 sz4 rfl hc (by simp [bv,oneCell]) (by rw [fillBo_len _ _ _ (by omega)]; simp; omega) fun h' S'=>?_
   rw [fillBo_splice x p _ m (by omega)] at S'
   have e : (p : Int) + ((min p (m - p) : Nat) : Int) = ((p + min p (m - p) : Nat) : Int):=by omega
   with_reducible repeat (first | (apply qzV; simp (disch:=omega) only [zA,bzNc.1] <;> rfl) | apply qzT | apply qzF | apply qzG | ((first | apply qzB | apply qzC); simp (disch:=omega) only [zA,bzNc.1] <;> rfl))
   rw [e]
   exact ih (n - min p (m - p)) (by omega) (by omega) (by omega) (by omega) S' hk
theorem f147c {k : Nat} {h : AH} {v : Value} {x : Bool} {n : Nat} (S : Bools h v [x]) (hn : n ≤ 100000) (hk : n < k) :
  Tl (eInv env (k + 3) (.func 147) #[] #[v,.int .i64 (n : Int)] h) fun r=>OwnB prog h.n r.2 r.1 1 (brows (List.replicate n x)) ∧ Grow h r.2:=by
 rw [F147_call]
 unfold F147
 have hlen : ∀ h',pLen prog #[92] v h' = some (.int .i64 1):=fun h'=>Sl1.len S u92
 have ml:=f185c (k:=k) n (by omega) h
 with_reducible repeat (first | (apply qzV; simp (disch:=omega) only [zA,bzNc.1] <;> rfl) | apply qzT | apply qzF | apply qzG | ((first | apply qzB | apply qzC); simp (disch:=omega) only [zA,bzNc.1] <;> rfl))
 unfold F147_rlr
 with_reducible repeat (first | (apply qzV; simp (disch:=omega) only [zA,bzNc.1,hlen,ml] <;> rfl) | apply qzT | apply qzF | apply qzG | ((first | apply qzB | apply qzC); simp (disch:=omega) only [zA,bzNc.1,hlen,ml] <;> rfl))
 unfold F147_rlrrr
 with_reducible repeat (first | (apply qzV; simp (disch:=omega) only [zA,bzNc.1] <;> rfl) | apply qzT | apply qzF | apply qzG | ((first | apply qzB | apply qzC); simp (disch:=omega) only [zA,bzNc.1] <;> rfl))
 refine Tl.makeK (Stt.init h) app92 ze4 (by omega) (by omega) fun b h1 S1 g1=>?_
 have S1 : Stt prog h.n h h1 [(b,.cells (fillBo x 0 n) 4 true)] []:=by
  have e : (List.replicate n (Value.bool false).cells.toList).flatten = fillBo x 0 n:=by
   unfold fillBo
   simp only [List.replicate_zero,List.nil_append,Nat.sub_zero,List.map_replicate,bv]
   have : (Value.bool false).cells.toList = [Value.bool false]:=rfl
   rw [this]
   clear hn hk ml S1
   induction n with
   | zero=>rfl
   | succ n ih=>rw [List.replicate_succ,List.flatten_cons,ih,List.replicate_succ]; rfl
  rw [← e]; exact S1
 have B1:=S.grow g1
 have hc : cellsOf prog 1 (min 1 n) v h1 = some ((List.replicate (min 1 n) x).map bv):=by
  by_cases hn0 : n = 0
  ·subst hn0
   rcases B1 with ⟨q,q2⟩ | ⟨b',o,c,own,q,_,_⟩
   ·simp at q2
   ·subst q; rfl
  ·have : min 1 n = 1:=by omega
   rw [this]
   exact SlV.cellsOf B1 (by omega)
 have hl1 : lenE v = some 1:=lenE_of B1
 refine Tl.copy' S1 0 rfl el92 sz4 hl1 hc (by simp [bv,oneCell]) (by rw [fillBo_len _ _ _ (by omega)]; simp; omega) fun h2 S2=>?_
 rw [fillBo_splice x 0 _ n (by omega),Nat.zero_add] at S2
 refine f147_loop (p:=min 1 n) (by omega) (n - min 1 n) (by omega) (by omega) (by omega) S2 fun h3 y y' S3=>?_
 have S3 : Stt prog h.n h h3 ((b,.cells (brows (List.replicate n x)).flatten 4 true) :: []) []:=by
  have e : (brows (List.replicate n x)).flatten = fillBo x n n:=by
   unfold fillBo brows
   rw [Nat.sub_self,List.replicate_zero,List.append_nil]
   generalize List.replicate n x = l
   induction l with
   | nil=>rfl
   | cons a l ih=>rw [List.map_cons,List.flatten_cons,ih]; rfl
  rw [e]; exact S3
 have S4:=S3.absorb (n:=1) (fun r hr=>by obtain ⟨z,_,rfl⟩:=List.mem_map.1 hr; rfl) sz4
 rw [brows_len,List.length_replicate] at S4
 exact ⟨_,rfl,S4.ret 0 rfl,S4.grow⟩
end Go.Proofs.YtlbmlncdjkdoaaaGreat.Sh
/- What 'Get' of the nulls' package comes to. -/
set_option linter.unusedVariables false
set_option linter.unusedSimpArgs false
set_option maxRecDepth 100000
namespace Go.Proofs.YtlbmlncdjkdoaaaGreat.Sh
open Go Go.RowKit Go.Proofs.Ev
end Go.Proofs.YtlbmlncdjkdoaaaGreat.Sh
/- What 'Get' of the nulls' package comes to: the whole. -/
set_option linter.unusedVariables false
set_option linter.unusedSimpArgs false
set_option maxRecDepth 100000
namespace Go.Proofs.YtlbmlncdjkdoaaaGreat.Sh
open Go Go.RowKit Go.Proofs.Ev
open Tryz (prog)
def bzNe:=PLift.up (ai @ld3 (ai @ld4 (ai @ld5 (ai @ld92 (ai @ld24 (ai @ld93 (ai @ld121 (ai @ld124 (ai (fun a h=>conv_int (a:=a) (h:=h) u3 u121) (ai (fun a h=>conv_int (a:=a) (h:=h) u121 u3) (ai (fun a h=>conv_int (a:=a) (h:=h) u3 u101) (ai (fun a h=>conv_int (a:=a) (h:=h) u101 u3) (ai (fun ox oy a b=>bin_eql_bool (ox:=ox) (oy:=oy) (a:=a) (b:=b) u4) (ai (fun ox oy a b=>bin_neq_bool (ox:=ox) (oy:=oy) (a:=a) (b:=b) u4) (ai @ex2_0 (ai @ex2_1 (ai @ex3_0 (ai @ex3_1 (@ex3_2)))))))))))))))))))
def szV (n : Nat) : Nat:=Pk.sizeN n 1
/-- Flags of a form, and what is left. -/
def mid (n form : Nat) (r2 : List Nat) : Option (List Bool × List Nat) :=
 if form = 2 then (if r2.length < szV n then none else if Pk.checkE (r2.take (szV n)) (n : Int) 1 ≠ 0 then none else some ((Pk.getN (r2.take (szV n)) (n : Int) 1).map (· == 1),r2.drop (szV n)))
 else some (List.replicate n (form == 1),r2)
def getV (b : List Nat) : Option (List Bool × Nat):=match dec 0 0 b with
 | none=>none
 | some (n,r1)=>if n > 4096 then none else match r1 with
  | []=>none
  | form :: r2=>if form > 2 then none else match mid n form r2 with
   | none=>none
   | some (l,rest)=>if putV l = b.take (b.length - rest.length) then some (l,b.length - rest.length) else none
theorem f95_loop {β : Type} {k : Nat} {Q : β→Prop} {n0 : Nat} {h0 : AH} {L : List (Nat × AO)} {x0 x5 lv gv : Value} {g : List Nat} {P1 : OS} {m : Nat} (hm : m ≤ 4096) (hg : g.length = m)
  {ke0 : Value→Value→Value→Value→Value→Value→Value→AH→Option β} (n : Nat) :
  ∀ {i j : Nat} {h : AH} {done : List Bool},i + n = m→n < j→done.length = m→done.take i = (g.take i).map (· == 1)→Stt prog n0 h0 h L [(gv,1,u64rows g),P1,(lv,1,brows done)] →
   (∀ h' y y',Stt prog n0 h0 h' L [(gv,1,u64rows g),P1,(lv,1,brows (g.map (· == 1)))]→Tl (ke0 x0 lv x5 gv (.int .i64 m) y y' h') Q) →
   Tl (F95_lrrrrrlrlrrrrrrr (eInv env k) k j x0 lv x5 gv (.int .i64 m) (.int .i64 i) h ke0) Q:=by
 induction n with
 | zero =>
  intro i j h done hi hj hd ht S hk
  obtain ⟨j,rfl⟩ : ∃ q,j = q + 1:=⟨j - 1,by omega⟩
  simp only [F95_lrrrrrlrlrrrrrrr]
  with_reducible repeat (first | (apply qzV; simp (disch:=omega) only [zA,bzNe.1] <;> rfl) | apply qzT | apply qzF | apply qzG | ((first | apply qzB | apply qzC); simp (disch:=omega) only [zA,bzNe.1] <;> rfl))
  rw [List.take_of_length_le (by omega),List.take_of_length_le (by omega)] at ht
  subst ht
  exact hk _ _ _ S
 | succ n ih =>
  intro i j h done hi hj hd ht S hk
  obtain ⟨j,rfl⟩ : ∃ q,j = q + 1:=⟨j - 1,by omega⟩
  obtain ⟨x,hx⟩ : ∃ x,g[i]? = some x:=⟨_,List.getElem?_eq_getElem (by omega)⟩
  obtain ⟨b,o,hp,hc1⟩:=Sl1.at_ (S.sl1 (f:=u64v) 0 rfl) (t:=124) (k:=.i64) hx u124 sz121
  have hc1:=hc1 h (Grow.refl _)
  obtain ⟨bm,em,hmm⟩:=S.idx (t:=92) 2 rfl (kd:=.i64) (j:=i) (by rw [brows_len]; omega) u92 sz4
  have e : (i : Int) + 1 = ((i + 1 : Nat) : Int):=by omega
  have eb : ((x : Int) == 1) = (x == 1):=by
   by_cases q : x = 1
   ·subst q; rfl
   ·have h1 : (x == 1) = false:=by simpa using q
    have h2 : ((x : Int) == 1) = false:=by simp; omega
    rw [h1,h2]
  simp only [F95_lrrrrrlrlrrrrrrr]
  with_reducible repeat (first | (apply qzV; simp (disch:=omega) only [zA,bzNe.1,hp,hc1,u64v,hmm,eb] <;> rfl) | apply qzT | apply qzF | apply qzG | ((first | apply qzB | apply qzC); simp (disch:=omega) only [zA,bzNe.1,hp,hc1,u64v,hmm,eb] <;> rfl))
  refine Tl.setAt S 2 rfl em (by rw [brows_len]; omega) rfl sz4 rfl fun h' S'=>?_
  with_reducible repeat (first | (apply qzV; simp (disch:=omega) only [zA,bzNe.1] <;> rfl) | apply qzT | apply qzF | apply qzG | ((first | apply qzB | apply qzC); simp (disch:=omega) only [zA,bzNe.1] <;> rfl))
  rw [e]
  refine ih (done:=done.set i (x == 1)) (by omega) (by omega) (by simp [hd]) ?_ (by simpa [brows,bv,List.map_set,Value.cells] using S') hk
  have hti : g.take (i + 1) = g.take i ++ [x]:=by rw [List.take_add_one,hx]; rfl
  rw [hti,List.map_append,← ht]
  refine List.ext_getElem? fun q=>?_
  rw [List.getElem?_take,List.getElem?_set]
  by_cases q1 : q < i
  ·rw [if_pos (by omega),if_neg (by omega),List.getElem?_append_left (by simp; omega),List.getElem?_take,if_pos q1]
  ·by_cases q2 : q = i
   ·subst q2
    rw [if_pos (by omega),if_pos rfl,if_pos (by omega),List.getElem?_append_right (by simp; omega)]
    simp [show min q done.length = q by omega]
   ·rw [if_neg (by omega),List.getElem?_eq_none (by simp; omega)]
theorem f95_mid {β : Type} {k : Nat} {Q : β→Prop} {h0 h : AH} {L : List (Nat × AO)} {br : Nat} {rv lv x0 : Value} {r2 : List Nat} {n form : Nat} (S : Stt prog h0.n h0 h (Rb br rv :: L) [(lv,1,brows (List.replicate n (form == 1)))])
  (R : RV (Rb br rv :: L) 0 rv r2) (hn : n ≤ 4096) (hform : form ≤ 2) (hl : r2.length ≤ 2 ^ 30) (hb : ∀ x ∈ r2,x < 256) (hk : 5000 < k)
  {kn : Value→Value→Value→Value→Value→Value→Value→Value→Value→AH→Option β} {kr : Value→Value→Value→AH→Option β}
  (hkn : ∀ l rest' rv' h' O' (i : Nat) y6 y10 y45 y66 y67 y68,Stt prog h0.n h0 h' (Rb br rv' :: L) O'→O'[i]? = some (lv,1,brows l)→RV (Rb br rv' :: L) 0 rv' rest'→mid n form r2 = some (l,rest')→l.length = n→Tl (kn x0 lv (ptr br) y6 y10 y45 y66 y67 y68 h') Q)
  (hkr : mid n form r2 = none→∀ h',Grow h0 h'→Tl (kr (.slice none 0 0) (.int .i64 0) (.int .i64 4) h') Q) :
  Tl (F95_rlrrrrrrr (eInv env (k + 100)) (k + 100) x0 lv (ptr br) (.int .u64 (n : Int)) (.bool ((form : Int) == 2)) h kn kr) Q:=by
 unfold F95_rlrrrrrrr
 unfold mid at hkn hkr
 by_cases q2 : form = 2
 ·simp only [if_pos q2] at hkn hkr
  have hsz : Pk.sizeE (n : Int) 1 = (szV n : Int):=by
   unfold Pk.sizeE
   have hmb : Pk.mayB (n : Int) 1 = true:=Pk.mayB_mk (N:=n) (W:=1) (by omega) (by omega)
   rw [if_pos hmb]
   rfl
  have hszl : szV n ≤ 520:=by unfold szV Pk.sizeN; omega
  have sz:=f120c (k:=k + 98) (n : Int) 1 h
  rw [hsz] at sz
  with_reducible repeat (first | (apply qzV; simp (disch:=omega) only [zA,bzNe.1,sz] <;> rfl) | apply qzT | apply qzF | apply qzG | ((first | apply qzB | apply qzC); simp (disch:=omega) only [zA,bzNe.1,sz] <;> rfl))
  by_cases q3 : r2.length < szV n
  ·rw [if_pos q3] at hkr
   refine Tl.bind (f99n (k:=k + 97) S rfl R (n:=(szV n : Int)) (.inl (by omega))) ?_
   rintro ⟨r,h1⟩ ⟨e,he,er⟩
   cases er
   with_reducible repeat (first | (apply qzV; simp (disch:=omega) only [zA,bzNe.1] <;> rfl) | apply qzT | apply qzF | apply qzG | ((first | apply qzB | apply qzC); simp (disch:=omega) only [zA,bzNe.1] <;> rfl))
   exact hkr rfl _ S.grow
  ·simp only [if_neg q3] at hkn hkr
   refine Tl.bind (f99c (k:=k + 97) S rfl R (n:=szV n) (by omega) hl) ?_
   rintro ⟨r,h1⟩ ⟨pv,rv',er,S1,R1⟩
   simp only at er S1
   subst er
   have S1 : Stt prog h0.n h0 h1 (Rb br rv' :: L) [(pv,1,u8rows (r2.take (szV n))),(lv,1,brows (List.replicate n (form == 1)))]:=S1
   have R1 : RV (Rb br rv' :: L) 0 rv' (r2.drop (szV n)):=R1
   with_reducible repeat (first | (apply qzV; simp (disch:=omega) only [zA,bzNe.1] <;> rfl) | apply qzT | apply qzF | apply qzG | ((first | apply qzB | apply qzC); simp (disch:=omega) only [zA,bzNe.1] <;> rfl))
   refine Tl.bind (f137c (k:=k + 10) (S1.sl1 (f:=u8v) 0 rfl) (fun x hx=>hb x (List.mem_of_mem_take hx)) (by simp; omega) (n : Int) 1 (fun _=>by simp; omega)) ?_
   rintro ⟨r,h2⟩ ⟨gv,er,g2,X⟩
   simp only at er g2 X
   subst er
   by_cases q4 : Pk.checkE (r2.take (szV n)) (n : Int) 1 = 0
   ·simp only [if_neg (show ¬ Pk.checkE (r2.take (szV n)) (n : Int) 1 ≠ 0 from fun h=>h q4)] at hkn
    have S2:=S1.gain g2 X
    have hgl : (Pk.getN (r2.take (szV n)) (n : Int) 1).length = n:=by
     unfold Pk.getN
     rw [if_pos q4]
     simp [digs]
    have hlen : ∀ h',pLen prog #[92] lv h' = some (.int .i64 n):=fun h'=>by
     have:=SlV.len (S2.slV 2 rfl) u92 (h':=h')
     rw [brows_len,List.length_replicate] at this
     exact this
    rw [q4]
    with_reducible repeat (first | (apply qzV; simp (disch:=omega) only [zA,bzNe.1,hlen] <;> rfl) | apply qzT | apply qzF | apply qzG | ((first | apply qzB | apply qzC); simp (disch:=omega) only [zA,bzNe.1,hlen] <;> rfl))
    refine f95_loop hn hgl n (i:=0) (by omega) (by omega) (by simp) (by simp) S2 fun h3 y y' S3=>?_
    exact hkn _ _ rv' h3 _ 2 _ _ _ _ _ _ S3 rfl R1 rfl (by rw [List.length_map,hgl])
   ·rw [if_pos q4] at hkr
    with_reducible repeat (first | (apply qzV; simp (disch:=omega) only [zA,bzNe.1] <;> rfl) | apply qzT | apply qzF | apply qzG | ((first | apply qzB | apply qzC); simp (disch:=omega) only [zA,bzNe.1] <;> rfl))
    exact hkr rfl _ (S1.grow.trans g2)
 ·simp only [if_neg q2] at hkn
  with_reducible repeat (first | (apply qzV; simp (disch:=omega) only [zA,bzNe.1] <;> rfl) | apply qzT | apply qzF | apply qzG | ((first | apply qzB | apply qzC); simp (disch:=omega) only [zA,bzNe.1] <;> rfl))
  exact hkn _ _ rv h _ 0 _ _ _ _ _ _ S rfl R rfl (by simp)
theorem dec_lenV : ∀ (b : List Nat) {i acc v : Nat} {rest : List Nat},dec i acc b = some (v,rest)→rest.length < b.length ∧ ∀ x ∈ rest,x ∈ b:=by
 intro b
 induction b with
 | nil=>intro i acc v rest h; simp [dec] at h
 | cons c b ih =>
  intro i acc v rest h
  unfold dec at h
  split at h
  ·cases h
  ·split at h
   ·cases h
   ·split at h
    ·obtain ⟨h1,h2⟩:=ih h
     exact ⟨by simp; omega,fun x hx=>by simp [h2 x hx]⟩
    ·split at h
     ·cases h
     ·cases h
      exact ⟨by simp,fun x hx=>by simp [hx]⟩
theorem mid_len {n form : Nat} {r2 rest : List Nat} {l : List Bool} (h : mid n form r2 = some (l,rest)) : rest.length ≤ r2.length:=by
 unfold mid at h
 split at h
 ·split at h
  ·cases h
  ·split at h
   ·cases h
   ·cases h; simp
 ·cases h; simp
theorem f95c {k : Nat} {h : AH} {v : Value} {b : List Nat} (B : Bytes h v b) (hb : ∀ x ∈ b,x < 256) (hl : b.length ≤ 2 ^ 20) (hk : 6000 + b.length < k) :
  Tl (eInv env (k + 1000) (.func 95) #[] #[v] h) fun r=>(∃ l n lv,getV b = some (l,n) ∧ l.length ≤ 4096 ∧ r.1 = .tuple #[lv,.int .i64 n,.int .i64 0] ∧ Grow h r.2 ∧ OwnB prog h.n r.2 lv 1 (brows l)) ∨
   (getV b = none ∧ r.1 = .tuple #[.slice none 0 0,.int .i64 0,.int .i64 4] ∧ Grow h r.2):=by
 rw [F95_call]
 unfold F95
 refine Tl.bind (f97c (k:=k + 997) (Stt.init h) B (by omega)) ?_
 rintro ⟨x15,h1⟩ ⟨br,rv,L',e1,S1,R1,g1⟩
 simp only at e1 S1 g1
 subst e1
 rw [List.nil_append] at S1 R1
 refine Tl.bind (f142c (k:=k + 993) S1 rfl R1 (by omega) hb (by omega)) ?_
 rintro ⟨r,h2⟩ hr
 unfold getV
 rcases hr with ⟨n,r1,rv2,hd,er,S2,R2⟩ | ⟨hd,e,he,er⟩
 ·simp only at er S2
  subst er
  have S2 : Stt prog h.n h h2 (Rb br rv2 :: L') []:=S2
  have R2 : RV (Rb br rv2 :: L') 0 rv2 r1:=R2
  obtain ⟨dl1,dl2⟩:=dec_lenV b hd
  rw [hd]
  simp only
  by_cases qn : n > 4096
  ·rw [if_pos qn]
   have : (n : Int) > 4096:=by omega
   with_reducible repeat (first | (apply qzV; simp (disch:=omega) only [zA,bzNe.1] <;> rfl) | apply qzT | apply qzF | apply qzG | ((first | apply qzB | apply qzC); simp (disch:=omega) only [zA,bzNe.1] <;> rfl))
   exact ⟨_,rfl,.inr ⟨rfl,rfl,S2.grow⟩⟩
  ·rw [if_neg qn]
   with_reducible repeat (first | (apply qzV; simp (disch:=omega) only [zA,bzNe.1] <;> rfl) | apply qzT | apply qzF | apply qzG | ((first | apply qzB | apply qzC); simp (disch:=omega) only [zA,bzNe.1] <;> rfl))
   cases r1 with
   | nil =>
    refine Tl.bind (f127n (k:=k + 976) S2 rfl R2 (n:=1) (by omega) (by omega) (by simp)) ?_
    rintro ⟨r,h3⟩ ⟨er,g3⟩
    simp only at er g3
    subst er
    with_reducible repeat (first | (apply qzV; simp (disch:=omega) only [zA,bzNe.1] <;> rfl) | apply qzT | apply qzF | apply qzG | ((first | apply qzB | apply qzC); simp (disch:=omega) only [zA,bzNe.1] <;> rfl))
    exact ⟨_,rfl,.inr ⟨rfl,rfl,S2.grow.trans g3⟩⟩
   | cons form r2 =>
    refine Tl.bind (f127c (k:=k + 976) S2 rfl R2 (n:=1) (by omega) (by omega) (by simp) (by simp at dl1; simp; omega) (fun x hx=>hb x (dl2 x hx))) ?_
    rintro ⟨r,h3⟩ ⟨rv3,er,S3,R3⟩
    simp only at er S3
    subst er
    have S3 : Stt prog h.n h h3 (Rb br rv3 :: L') []:=S3
    have R3 : RV (Rb br rv3 :: L') 0 rv3 r2:=R3
    have ef : ofB ((form :: r2).take 1) = form:=by simp [ofB]
    rw [ef]
    have hf256:=hb form (dl2 form (by simp))
    have dl3 : r2.length + 1 < b.length:=by simpa using dl1
    simp only
    by_cases qf : form > 2
    ·rw [if_pos qf]
     with_reducible repeat (first | (apply qzV; simp (disch:=omega) only [zA,bzNe.1] <;> rfl) | apply qzT | apply qzF | apply qzG | ((first | apply qzB | apply qzC); simp (disch:=omega) only [zA,bzNe.1] <;> rfl))
     exact ⟨_,rfl,.inr ⟨rfl,rfl,S3.grow⟩⟩
    ·rw [if_neg qf]
     have eb : ((form : Int) == 1) = (form == 1):=by
      by_cases q : form = 1
      ·subst q; rfl
      ·have h1 : (form == 1) = false:=by simpa using q
       have h2 : ((form : Int) == 1) = false:=by simp; omega
       rw [h1,h2]
     with_reducible repeat (first | (apply qzV; simp (disch:=omega) only [zA,bzNe.1,eb,bs92] <;> rfl) | apply qzT | apply qzF | apply qzG | ((first | apply qzB | apply qzC); simp (disch:=omega) only [zA,bzNe.1,eb,bs92] <;> rfl))
     have S4:=S3.alloc (.cells [.bool (form == 1)] 4 true)
     refine Tl.callO S4.drop (f147c (k:=k + 996) (x:=form == 1) (n:=n) (S4.lit 0 rfl rfl) (by omega) (by omega)) fun lv h5 S5 g5=>?_
     with_reducible repeat (first | (apply qzV; simp (disch:=omega) only [zA,bzNe.1] <;> rfl) | apply qzT | apply qzF | apply qzG | ((first | apply qzB | apply qzC); simp (disch:=omega) only [zA,bzNe.1] <;> rfl))
     refine f95_mid (k:=k + 899) S5 R3 (by omega) (by omega) (by omega) (fun x hx=>hb x (dl2 x (by simp [hx]))) (by omega) ?_ ?_
     ·intro l rest rv6 h6 O' i y6 y10 y45 y66 y67 y68 S6 hO R6 hm hln
      have hml:=mid_len hm
      rw [hm]
      simp only
      have hv : ∀ h',pLen prog #[93] v h' = some (.int .i64 b.length):=fun h'=>B.len
      have left:=f100c (k:=k + 998) S6 rfl R6
      have es : (b.length : Int) - (rest.length : Int) = ((b.length - rest.length : Nat) : Int):=by omega
      with_reducible repeat (first | (apply qzV; simp (disch:=omega) only [zA,bzNe.1,hv,left] <;> rfl) | apply qzT | apply qzF | apply qzG | ((first | apply qzB | apply qzC); simp (disch:=omega) only [zA,bzNe.1,hv,left] <;> rfl))
      refine Tl.bind (f69c (k:=k + 499) (S6.sl1 (f:=bv) i hO) (by omega) (by omega)) ?_
      rintro ⟨r,h7⟩ ⟨av,er,g7,X⟩
      simp only at er g7 X
      subst er
      have S7:=S6.gain g7 X
      obtain ⟨tv,ht,Bt⟩:=Bytes.takeS (B.grow S7.grow) (n:=b.length - rest.length) (by omega)
      rw [← es] at ht
      have hpl : ∀ x ∈ putV l,x < 256:=fun x hx=>by
       unfold putV at hx
       rcases List.mem_append.1 hx with hx | hx
       ·exact pvarN_256 _ x hx
       ·rcases List.mem_cons.1 hx with rfl | hx
        ·have:=formN_le l; omega
        ·split at hx
         ·exact (putN_spec 1 _).2.2 x hx
         ·cases hx
      have eq:=f148c (k:=k + 998) (S7.sl1 (f:=u8v) 0 rfl) Bt hpl (fun x hx=>hb x (List.mem_of_mem_take hx))
      by_cases q : putV l = b.take (b.length - rest.length)
      ·rw [if_pos q]
       rw [decide_eq_true q] at eq
       with_reducible repeat (first | (apply qzV; simp (disch:=omega) only [zA,bzNe.1,ht,eq] <;> rfl) | apply qzT | apply qzF | apply qzG | ((first | apply qzB | apply qzC); simp (disch:=omega) only [zA,bzNe.1,ht,eq] <;> rfl))
       rw [es]
       refine ⟨_,rfl,.inl ⟨l,_,lv,rfl,by omega,rfl,S7.grow,S7.ret (i + 1) (by simpa using hO)⟩⟩
      ·rw [if_neg q]
       rw [decide_eq_false q] at eq
       with_reducible repeat (first | (apply qzV; simp (disch:=omega) only [zA,bzNe.1,ht,eq] <;> rfl) | apply qzT | apply qzF | apply qzG | ((first | apply qzB | apply qzC); simp (disch:=omega) only [zA,bzNe.1,ht,eq] <;> rfl))
       exact ⟨_,rfl,.inr ⟨rfl,rfl,S7.grow⟩⟩
     ·intro hm h6 g6
      rw [hm]
      exact ⟨_,rfl,.inr ⟨rfl,rfl,g6⟩⟩
 ·cases er
  rw [hd]
  with_reducible repeat (first | (apply qzV; simp (disch:=omega) only [zA,bzNe.1] <;> rfl) | apply qzT | apply qzF | apply qzG | ((first | apply qzB | apply qzC); simp (disch:=omega) only [zA,bzNe.1] <;> rfl))
  exact ⟨_,rfl,.inr ⟨rfl,rfl,S1.grow⟩⟩
end Go.Proofs.YtlbmlncdjkdoaaaGreat.Sh
/- What 'zone.Check' comes to, where there are values; what is right of a zone of good cells. -/
set_option linter.unusedVariables false
set_option linter.unusedSimpArgs false
set_option maxRecDepth 100000
namespace Go.Proofs.YtlbmlncdjkdoaaaGreat.Sh
open Go Go.RowKit Go.Proofs.Ev Go.Lib
open Tryz (prog)
def bzZe:=PLift.up (ai @ld3 (ai @ld2 (ai @ld9 (ai @ld39 (ai @ld53 (ai @fa39_0 (ai @fa39_1 (ai @fa39_2 (ai @fa53_0 (ai @fa53_1 (ai @fa53_2 (ai @fa53_3 (ai (fun ox oy a b=>bin_eql_bool (ox:=ox) (oy:=oy) (a:=a) (b:=b) u4) (ai @aggC (ai @aggZ (@Nat.add_zero))))))))))))))))
def zoneE (z : ZoneD) (kind : Int) : Int:=if z.mn.k = kind ∧ z.mx.k = kind ∧ cellE z.mn = 0 ∧ cellE z.mx = 0 ∧ z.mn.cmp z.mx ≤ 0 then 0 else 2
theorem zoneE_zero {z : ZoneD} {kind : Int} : zoneE z kind = 0 ↔ z.mn.k = kind ∧ z.mx.k = kind ∧ cellE z.mn = 0 ∧ cellE z.mx = 0 ∧ z.mn.cmp z.mx ≤ 0:=by
 unfold zoneE
 split
 ·simp [*]
 ·rename_i h
  constructor
  ·intro q; cases q
  ·intro q; exact absurd q h
theorem bdCe : pBuild prog 39 #[] = some c0.v:=by kernel_rfl
/-- 'Check', where a zone has values. -/
theorem f98c {k : Nat} (z : ZoneD) (kind : Int) (h : AH) (h1 : 1 ≤ kind) (h3 : kind ≤ 3) (p0 : 0 ≤ z.nul) (p1 : z.nul < z.cnt) :
  Tl (eInv env (k + 13) (.func 98) #[] #[zv z,.int .i64 kind] h) fun r=>r.1 = .int .i64 (zoneE z kind) ∧ Grow h r.2:=by
 rw [F98_call]
 unfold F98
 refine Tl.box' (Stt.init h) rfl isZ fun b2 h1 S1 _=>?_
 have S1 : Stt prog h.n h h1 [Zr b2 z] []:=S1
 obtain ⟨_,z2,z3,z4,z5,z6,z7⟩:=z_at S1 0 rfl
 obtain ⟨d4,e4⟩ : ∃ d,∀ x y,pBin prog .eql 39 x y z.mn.v c0.v = some (.bool d):=⟨_,fun x y=>eqlC z.mn c0⟩
 obtain ⟨d5,e5⟩ : ∃ d,∀ x y,pBin prog .eql 39 x y z.mx.v c0.v = some (.bool d):=⟨_,fun x y=>eqlC z.mx c0⟩
 unfold zoneE
 cases d4 <;> cases d5
 all_goals
  by_cases r5 : z.mn.k = kind
  ·by_cases r6 : z.mx.k = kind
   ·with_reducible repeat (first | (apply qzV; simp (disch:=omega) only [zA,bzZe.1,z2,z3,z4,z5,bdCe,e4,e5,z6,z7] <;> rfl) | apply qzT | apply qzF | apply qzG | ((first | apply qzB | apply qzC); simp (disch:=omega) only [zA,bzZe.1,z2,z3,z4,z5,bdCe,e4,e5,z6,z7] <;> rfl))
    with_reducible refine Tl.call' S1 (f85c (k:=k + 11) z.mn h1) fun h2 S2 _=>?_
    obtain ⟨_,_,_,y4,y5,_⟩:=z_at S2 0 rfl
    by_cases r7 : cellE z.mn = 0
    ·with_reducible repeat (first | (apply qzV; simp (disch:=omega) only [zA,bzZe.1,y4,y5] <;> rfl) | apply qzT | apply qzF | apply qzG | ((first | apply qzB | apply qzC); simp (disch:=omega) only [zA,bzZe.1,y4,y5] <;> rfl))
     with_reducible refine Tl.call' S2 (f85c (k:=k + 11) z.mx h2) fun h3 S3 _=>?_
     obtain ⟨_,_,_,x4,x5,_⟩:=z_at S3 0 rfl
     by_cases r8 : cellE z.mx = 0
     ·with_reducible repeat (first | (apply qzV; simp (disch:=omega) only [zA,bzZe.1,x4,x5] <;> rfl) | apply qzT | apply qzF | apply qzG | ((first | apply qzB | apply qzC); simp (disch:=omega) only [zA,bzZe.1,x4,x5] <;> rfl))
      with_reducible refine Tl.call' S3 (f146c (k:=k + 3) z.mn z.mx h3) fun h4 S4 _=>?_
      by_cases r9 : z.mn.cmp z.mx ≤ 0
      ·rw [if_pos ⟨r5,r6,r7,r8,r9⟩]
       with_reducible repeat (first | (apply qzV; simp (disch:=omega) only [zA,bzZe.1] <;> rfl) | apply qzT | apply qzF | apply qzG | ((first | apply qzB | apply qzC); simp (disch:=omega) only [zA,bzZe.1] <;> rfl))
       exact ⟨_,rfl,rfl,S4.grow⟩
      ·rw [if_neg (fun q=>r9 q.2.2.2.2)]
       with_reducible repeat (first | (apply qzV; simp (disch:=omega) only [zA,bzZe.1] <;> rfl) | apply qzT | apply qzF | apply qzG | ((first | apply qzB | apply qzC); simp (disch:=omega) only [zA,bzZe.1] <;> rfl))
       exact ⟨_,rfl,rfl,S4.grow⟩
     ·rw [if_neg (fun q=>r8 q.2.2.2.1)]
      with_reducible repeat (first | (apply qzV; simp (disch:=omega) only [zA,bzZe.1] <;> rfl) | apply qzT | apply qzF | apply qzG | ((first | apply qzB | apply qzC); simp (disch:=omega) only [zA,bzZe.1] <;> rfl))
      exact ⟨_,rfl,rfl,S3.grow⟩
    ·rw [if_neg (fun q=>r7 q.2.2.1)]
     with_reducible repeat (first | (apply qzV; simp (disch:=omega) only [zA,bzZe.1] <;> rfl) | apply qzT | apply qzF | apply qzG | ((first | apply qzB | apply qzC); simp (disch:=omega) only [zA,bzZe.1] <;> rfl))
     exact ⟨_,rfl,rfl,S2.grow⟩
   ·rw [if_neg (fun q=>r6 q.2.1)]
    with_reducible repeat (first | (apply qzV; simp (disch:=omega) only [zA,bzZe.1,z2,z3,z4,z5,bdCe,e4,e5,z6,z7] <;> rfl) | apply qzT | apply qzF | apply qzG | ((first | apply qzB | apply qzC); simp (disch:=omega) only [zA,bzZe.1,z2,z3,z4,z5,bdCe,e4,e5,z6,z7] <;> rfl))
    exact ⟨_,rfl,rfl,S1.grow⟩
  ·rw [if_neg (fun q=>r5 q.1)]
   with_reducible repeat (first | (apply qzV; simp (disch:=omega) only [zA,bzZe.1,z2,z3,z4,z5,bdCe,e4,e5,z6,z7] <;> rfl) | apply qzT | apply qzF | apply qzG | ((first | apply qzB | apply qzC); simp (disch:=omega) only [zA,bzZe.1,z2,z3,z4,z5,bdCe,e4,e5,z6,z7] <;> rfl))
   exact ⟨_,rfl,rfl,S1.grow⟩
end Go.Proofs.YtlbmlncdjkdoaaaGreat.Sh
/- What stands ahead of a segment's cells: 'open'. -/
set_option linter.unusedVariables false
set_option linter.unusedSimpArgs false
set_option maxRecDepth 100000
namespace Go.Proofs.YtlbmlncdjkdoaaaGreat.Sh
open Go Go.RowKit Go.Proofs.Ev Go.Lib
open Tryz (prog)
def bzS11:=PLift.up (ai @ld3 (ai @ld2 (ai @ld9 (ai @ld4 (ai @ld39 (ai @ld53 (ai @ld104 (ai @ld93 (ai @ld92 (ai @fa39_0 (ai @fa39_1 (ai @fa39_2 (ai @fa53_0 (ai @fa53_1 (ai @fa53_2 (ai @fa53_3 (ai @fa104_0 (ai @fa104_1 (ai @fa104_2 (ai @fa104_3 (ai (fun a h=>conv_int (a:=a) (h:=h) u5 u3) (ai @aggC (ai @aggZ (ai @ex2_0 (ai @ex2_1 (ai @ex3_0 (ai @ex3_1 (ai @ex3_2 (@Nat.add_zero)))))))))))))))))))))))))))))
/-! ### What is read, without the program -/
def endB (kind : Int) (r : List Nat) : Option (CellD × CellD × List Nat):=if kind = 1 then endN r else if kind = 2 then endT r else endW r
def openB : List Nat→Option (Int × List Bool × ZoneD × List Nat)
 | []=>none
 | kb :: r=>if ¬ (1 ≤ (kb : Int) ∧ (kb : Int) ≤ 3) then none else match getV r with
  | none=>none
  | some (l,n)=>if l.length = cnt l then some ((kb : Int),l,⟨l.length,cnt l,c0,c0⟩,r.drop n) else match endB (kb : Int) (r.drop n) with
   | none=>none
   | some (a,b,r2)=>if zoneE ⟨l.length,cnt l,a,b⟩ (kb : Int) = 0 then some ((kb : Int),l,⟨l.length,cnt l,a,b⟩,r2) else none
theorem getV_len {b : List Nat} {l : List Bool} {n : Nat} (h : getV b = some (l,n)) : n ≤ b.length:=by
 unfold getV at h
 split at h
 ·cases h
 ·split at h
  ·cases h
  ·split at h
   ·cases h
   ·split at h
    ·cases h
    ·split at h
     ·cases h
     ·split at h
      ·simp only [Option.some.injEq,Prod.mk.injEq] at h
       omega
      ·cases h
/-! ### The walk -/
def opL (kind : Int) (nv : Value) (z : ZoneD) (rv : Value) : List Value:=.int .i64 kind :: nv :: (zl z ++ [rv])
def Op (b : Nat) (kind : Int) (nv : Value) (z : ZoneD) (rv : Value) : Nat × AO:=(b,.cells (opL kind nv z rv) 104 true)
section
variable {n0 : Nat} {h0 h : AH} {L : List (Nat × AO)} {O : List OS}
structure Oat (h : AH) (b : Nat) (kind : Int) (nv : Value) (z : ZoneD) (rv : Value) : Prop where
 all : h.row b 0 11 = some (opL kind nv z rv)
 kind : h.cell b 0 = some (.int .i64 kind)
 zone : h.row b 2 8 = some (zl z)
 cnt : h.cell b 2 = some (.int .i64 z.cnt)
 nul : h.cell b 3 = some (.int .i64 z.nul)
theorem o_at {b : Nat} {kind : Int} {nv rv : Value} {z : ZoneD} (S : Stt prog n0 h0 h L O) (i : Nat) (hi : L[i]? = some (Op b kind nv z rv)) : Oat h b kind nv z rv:=by
 have:=S.sta.mem.at_ hi
 exact ⟨(row_of this).trans rfl,(cell_of this).trans rfl,(row_of this).trans rfl,(cell_of this).trans rfl,(cell_of this).trans rfl⟩
theorem strB_bytes {r : List Nat} (hb : ∀ x ∈ r,x < 256) : ((strB r).data.toList.map fun b : UInt8=>(Value.int .u8 b.toNat)) = (u8rows r).flatten:=by
 rw [u8rows_flat]
 unfold strB
 rw [List.map_map]
 refine List.map_congr_left fun x hx=>?_
 have:=hb x hx
 simp [u8v,Nat.mod_eq_of_lt this]
theorem Tl.toBytes {β : Type} {Q : β→Prop} {r : List Nat} {K : Value × AH→Option β} (S : Stt prog n0 h0 h L O) (hb : ∀ x ∈ r,x < 256) (hk : ∀ v h',Stt prog n0 h0 h' L ((v,1,u8rows r) :: O)→Grow h h'→Tl (K (v,h')) Q) :
  Tl (Ev.bnd (pBytes prog 9 93 (.string (strB r)) h) K) Q:=by
 have e : pBytes prog 9 93 (.string (strB r)) h = some (.slice (some ⟨h.n,0,none⟩) (strB r).size (strB r).size,h.alloc (.cells ((strB r).data.toList.map fun b=>.int .u8 b.toNat) 5 true)):=by
  unfold pBytes
  simp only [el93,u9,u5,sz5]
 rw [e,strB_bytes hb,strB_size]
 have S1:=Stt.absorb (n:=1) (rows:=u8rows r) (S.alloc (.cells (u8rows r).flatten 5 true)) (fun q hq=>by obtain ⟨x,_,rfl⟩:=List.mem_map.1 hq; rfl) sz5
 rw [u8rows_len] at S1
 exact hk _ _ S1 (Grow.alloc _ _)
theorem idx0 {a : Nat} {r : List Nat} (ha : a < 256) : pIndex prog 9 (.string (strB (a :: r))) (.int .i64 0) = some (.int .u8 (a : Int)):=by
 unfold pIndex
 simp only [u9]
 rw [if_pos (by omega)]
 have : (strB (a :: r))[(0 : Int).toNat]? = some (UInt8.ofNat a):=rfl
 rw [this]
 simp [Nat.mod_eq_of_lt ha]
theorem bdZd (p q : Int) : pBuild prog 53 #[(0,.int .i64 p),(1,.int .i64 q)] = some (zv ⟨p,q,c0,c0⟩):=by kernel_rfl
theorem segends_c {k i br : Nat} {rv : Value} {rest : List Nat} {kind : Int} (hkd : 1 ≤ kind ∧ kind ≤ 3) (S : Stt prog n0 h0 h L O) (hi : L[i]? = some (Rb br rv)) (R : RV L i rv rest) (hl : rest.length ≤ 2 ^ 30) (hb : ∀ x ∈ rest,x < 256) (hk : rest.length < k) :
  Tl (eInv env (k + 31) (.method "shadowbook/segment.ends") #[] #[codV kind, ptr br] h) fun r => ∃ (a b : CellD) (e : Int) (rv' : Value), r.1 = .tuple #[a.v, b.v, .int .i64 e] ∧ Stt prog n0 h0 r.2 (L.set i (Rb br rv')) O ∧
   ((∃ rest',endB kind rest = some (a,b,rest') ∧ e = 0 ∧ RV (L.set i (Rb br rv')) i rv' rest') ∨ (endB kind rest = none ∧ e ≠ 0)):=by
 have h : kind = 1 ∨ kind = 2 ∨ kind = 3:=by omega
 rcases h with rfl | rfl | rfl
 ·exact endsN_c S hi R hl hb
 ·exact endsT_c S hi R hl hb
 ·exact endsW_c S hi R hl hb hk
/-- What 'open' answers. -/
def OpenQ (h : AH) (bs : List Nat) (r : Value × AH) : Prop :=
 (∃ kind l z rest nv rv,openB bs = some (kind,l,z,rest) ∧ r.1 = .tuple #[.agg (opL kind nv z rv).toArray,.int .i64 0] ∧ Stt prog h.n h r.2 [] [(rv,1,u8rows rest),(nv,1,brows l)]) ∨
 (openB bs = none ∧ ∃ kind z a m c,r.1 = .tuple #[.agg (opL kind (.slice a m c) z (.slice none 0 0)).toArray,.int .i64 4] ∧ Grow h r.2)
/-- An opened one that may not be is told. -/
theorem open_bad {h0 h : AH} {L : List (Nat × AO)} {O : List OS} {bs : List Nat} {b : Nat} {kind : Int} {z : ZoneD} {a : Option Addr} {m c : Nat} (S : Stt prog h0.n h0 h (Op b kind (.slice a m c) z (.slice none 0 0) :: L) O) (hn : openB bs = none) :
  Tl (Ev.bnd (pLoad prog 104 (.pointer (some ⟨b,0,none⟩)) h) fun x=>Ev.bnd (kSt (pStore prog 104 (.pointer (some ⟨b,0,none⟩)) x h)) fun u=>Ev.bnd (pLoad prog 104 (.pointer (some ⟨b,0,none⟩)) u.2) fun q=>some (Value.tuple #[q,.int .i64 4],u.2)) fun r=>OpenQ h0 bs r:=by
 have r:=(o_at S 0 rfl).all
 with_reducible repeat (first | (apply qzV; simp (disch:=omega) only [zA,bzS11.1,r] <;> rfl) | apply qzT | apply qzF | apply qzG | apply qzH | ((first | apply qzB | apply qzC | apply qzD); simp (disch:=omega) only [zA,bzS11.1,r] <;> rfl))
 refine Tl.store' S 0 rfl sz104 rfl rfl (of_decide_eq_true rfl) fun h2 S2 _=>?_
 have S2 : Stt prog h0.n h0 h2 (Op b kind (.slice a m c) z (.slice none 0 0) :: L) O:=S2
 have r2:=(o_at S2 0 rfl).all
 with_reducible repeat (first | (apply qzV; simp (disch:=omega) only [zA,bzS11.1,r2] <;> rfl) | apply qzT | apply qzF | apply qzG | apply qzH | ((first | apply qzB | apply qzC | apply qzD); simp (disch:=omega) only [zA,bzS11.1,r2] <;> rfl))
 exact ⟨_,rfl,.inr ⟨hn,kind,z,a,m,c,rfl,S2.grow⟩⟩
end
end Go.Proofs.YtlbmlncdjkdoaaaGreat.Sh
/- What stands ahead of a segment's cells: 'open', the whole. -/
set_option linter.unusedVariables false
set_option linter.unusedSimpArgs false
set_option maxRecDepth 100000
namespace Go.Proofs.YtlbmlncdjkdoaaaGreat.Sh
open Go Go.RowKit Go.Proofs.Ev Go.Lib
open Tryz (prog)
def bzS12:=PLift.up (ai @ld3 (ai @ld2 (ai @ld9 (ai @ld4 (ai @ld39 (ai @ld53 (ai @ld104 (ai @ld93 (ai @ld92 (ai @fa39_0 (ai @fa39_1 (ai @fa39_2 (ai @fa53_0 (ai @fa53_1 (ai @fa53_2 (ai @fa53_3 (ai @fa104_0 (ai @fa104_1 (ai @fa104_2 (ai @fa104_3 (ai (fun a h=>conv_int (a:=a) (h:=h) u5 u3) (ai @aggC (ai @aggZ (ai @ex2_0 (ai @ex2_1 (ai @ex3_0 (ai @ex3_1 (ai @ex3_2 (@Nat.add_zero)))))))))))))))))))))))))))))
theorem endB_len {kind : Int} {r r2 : List Nat} {a b : CellD} (h : endB kind r = some (a,b,r2)) : r2.length ≤ r.length:=by
 have key : ∀ {α : Type} (rd : List Nat→Option (α × List Nat)) (mk : α→CellD),(∀ r r1 x,rd r = some (x,r1)→r1.length ≤ r.length)→endG rd mk r = some (a,b,r2)→r2.length ≤ r.length:=by
  intro α rd mk hr h
  unfold endG at h
  cases e1 : rd r with
  | none=>rw [e1] at h; cases h
  | some x =>
   obtain ⟨x,r1⟩:=x
   rw [e1] at h
   simp only at h
   cases e2 : rd r1 with
   | none=>rw [e2] at h; cases h
   | some y =>
    obtain ⟨y,r3⟩:=y
    rw [e2] at h
    simp only [Option.some.injEq,Prod.mk.injEq] at h
    obtain ⟨_,_,rfl⟩:=h
    have:=hr _ _ _ e1
    have:=hr _ _ _ e2
    omega
 unfold endB at h
 split at h
 ·unfold endN at h
  exact key rdN mkN (fun _ _ _ q=>(rdN_sub q).1) h
 ·split at h
  ·unfold endT at h
   exact key rdT mkT (fun _ _ _ q=>(rdT_sub q).1) h
  ·unfold endW at h
   exact key rdW mkW (fun _ _ _ q=>(rdW_sub q).1) h
section
variable {n0 : Nat} {h0 h : AH} {L : List (Nat × AO)} {O : List OS}
theorem RV.swap1 {x x' y : Nat × AO} {b : Nat} {cs : List Value} {e : TypeId} {rv : Value} {rest : List Nat} (R : RV (x :: (b,.cells cs e true) :: L) 0 rv rest) (hs : szT prog e ≠ some 1) : RV (x' :: y :: L) 0 rv rest:=by
 rcases R with R | ⟨j,bb,o,cs',e',h1,h2,h3,h4⟩
 ·exact .inl R
 ·rcases j with _ | _ | j
  ·exact absurd rfl h1
  ·simp only [List.getElem?_cons_zero,List.getElem?_cons_succ,Option.some.injEq,Prod.mk.injEq,AO.cells.injEq] at h2
   obtain ⟨_,_,rfl,_⟩:=h2
   exact absurd h3 hs
  ·exact .inr ⟨j + 2,bb,o,cs',e',by omega,by simpa using h2,h3,h4⟩
theorem dropAll : ∀ {L : List (Nat × AO)},Stt prog n0 h0 h L O→Stt prog n0 h0 h [] O
 | [],S=>S
 | _ :: _,S=>dropAll S.drop
/-- The rest. -/
theorem open_fin {k : Nat} {bs : List Nat} {b br : Nat} {kind : Int} {z : ZoneD} {l : List Bool} {rest : List Nat} {rv nv x y : Value} {r1 r2 : List (List Value)} (S : Stt prog h0.n h0 h (Rb br rv :: Op b kind nv z (.slice none 0 0) :: L) [(x,1,r1),(nv,1,brows l),(y,1,r2)])
  (R : RV (Rb br rv :: Op b kind nv z (.slice none 0 0) :: L) 0 rv rest) (hl : rest.length ≤ 2 ^ 30) (ho : openB bs = some (kind,l,z,rest)) :
  Tl (Ev.bnd (eInv env (k + 10) (.func 100) #[] #[ptr br] h) fun x78=>Ev.bnd (eInv env (k + 10) (.func 99) #[] #[ptr br,x78.1] x78.2) fun x79=>Ev.bnd (pExtract x79.1 0) fun x80=>Ev.bnd (pExtract x79.1 1) fun x81 =>
   Ev.bnd (pFieldAddr prog 104 (.pointer (some ⟨b,0,none⟩)) 3) fun x82=>Ev.bnd (kSt (pStore prog 93 x82 x80 x79.2)) fun u_8=>Ev.bnd (pLoad prog 104 (.pointer (some ⟨b,0,none⟩)) u_8.2) fun x83 =>
   Ev.bnd (kSt (pStore prog 104 (.pointer (some ⟨b,0,none⟩)) x83 u_8.2)) fun u_9=>Ev.bnd (pLoad prog 104 (.pointer (some ⟨b,0,none⟩)) u_9.2) fun q0=>some (Value.tuple #[q0,x81],u_9.2)) fun r=>OpenQ h0 bs r:=by
 have e1:=f100c (k:=k + 9) S (i:=0) rfl R
 with_reducible repeat (first | (apply qzV; simp (disch:=omega) only [zA,bzS12.1,e1] <;> rfl) | apply qzT | apply qzF | apply qzG | apply qzH | ((first | apply qzB | apply qzC | apply qzD); simp (disch:=omega) only [zA,bzS12.1,e1] <;> rfl))
 refine Tl.bind (f99c (k:=k + 7) S (i:=0) rfl R (n:=rest.length) (Nat.le_refl _) hl) ?_
 rintro ⟨r,h1⟩ ⟨v',rv',er,S1,R1⟩
 simp only at er S1
 subst er
 rw [List.take_length] at S1
 have S1 : Stt prog h0.n h0 h1 (Rb br rv' :: Op b kind nv z (.slice none 0 0) :: L) [(v',1,u8rows rest),(x,1,r1),(nv,1,brows l),(y,1,r2)]:=S1
 obtain ⟨a,c,eo,_⟩:=(S1.slV 0 rfl).form
 subst eo
 obtain ⟨a2,c2,eo2,_⟩:=(S1.slV 2 rfl).form
 subst eo2
 with_reducible repeat (first | (apply qzV; simp (disch:=omega) only [zA,bzS12.1] <;> rfl) | apply qzT | apply qzF | apply qzG | apply qzH | ((first | apply qzB | apply qzC | apply qzD); simp (disch:=omega) only [zA,bzS12.1] <;> rfl))
 refine Tl.store' S1 1 rfl sz93 rfl rfl (of_decide_eq_true rfl) fun h2 S2 _=>?_
 have S2 : Stt prog h0.n h0 h2 (Rb br rv' :: Op b kind (.slice a2 (brows l).length c2) z (.slice a (u8rows rest).length c) :: L) [(.slice a (u8rows rest).length c,1,u8rows rest),(x,1,r1),(.slice a2 (brows l).length c2,1,brows l),(y,1,r2)]:=S2
 have q2:=(o_at S2 1 rfl).all
 with_reducible repeat (first | (apply qzV; simp (disch:=omega) only [zA,bzS12.1,q2] <;> rfl) | apply qzT | apply qzF | apply qzG | apply qzH | ((first | apply qzB | apply qzC | apply qzD); simp (disch:=omega) only [zA,bzS12.1,q2] <;> rfl))
 refine Tl.store' S2 1 rfl sz104 rfl rfl (of_decide_eq_true rfl) fun h3 S3 _=>?_
 have S3 : Stt prog h0.n h0 h3 (Rb br rv' :: Op b kind (.slice a2 (brows l).length c2) z (.slice a (u8rows rest).length c) :: L) [(.slice a (u8rows rest).length c,1,u8rows rest),(x,1,r1),(.slice a2 (brows l).length c2,1,brows l),(y,1,r2)]:=S3
 have q3:=(o_at S3 1 rfl).all
 with_reducible repeat (first | (apply qzV; simp (disch:=omega) only [zA,bzS12.1,q3] <;> rfl) | apply qzT | apply qzF | apply qzG | apply qzH | ((first | apply qzB | apply qzC | apply qzD); simp (disch:=omega) only [zA,bzS12.1,q3] <;> rfl))
 exact ⟨_,rfl,.inl ⟨kind,l,z,rest,_,_,ho,rfl,(dropAll S3).keepO (.cons_cons _ (.cons _ (.cons_cons _ (List.nil_sublist _))))⟩⟩
end
theorem f73c {k : Nat} {h : AH} {bs : List Nat} (hb : ∀ x ∈ bs,x < 256) (hl : bs.length ≤ 2 ^ 19) (hk : 7000 + bs.length < k) :
  Tl (eInv env (k + 2000) (.func 73) #[] #[.string (strB bs)] h) fun r=>OpenQ h bs r:=by
 rw [F73_call]
 unfold F73
 refine Tl.alloc' (Stt.init h) ze104 rfl fun b h1 S1 _=>?_
 have S1 : Stt prog h.n h h1 [Op b 0 (.slice none 0 0) z0 (.slice none 0 0)] []:=S1
 have es : ∀ x y,pBin prog .eql 9 x y (.string (strB bs)) (.string { data:=#[] }) = some (.bool (decide (bs.length = 0))):=fun x y=>by rw [str0,strB_size]
 cases bs with
 | nil =>
  have e0 : decide (([] : List Nat).length = 0) = true:=rfl
  with_reducible repeat (first | (apply qzV; simp (disch:=omega) only [zA,bzS12.1,es,e0] <;> rfl) | apply qzT | apply qzF | apply qzG | ((first | apply qzB | apply qzC); simp (disch:=omega) only [zA,bzS12.1,es,e0] <;> rfl))
  exact open_bad S1 rfl
 | cons a r =>
  have ha : a < 256:=hb a (List.mem_cons_self ..)
  have hbr : ∀ x ∈ r,x < 256:=fun x hx=>hb x (List.mem_cons_of_mem _ hx)
  rw [List.length_cons] at hl hk
  have e0 : decide ((a :: r).length = 0) = false:=by simp
  have i0:=idx0 (r:=r) ha
  with_reducible repeat (first | (apply qzV; simp (disch:=omega) only [zA,bzS12.1,es,e0,i0] <;> rfl) | apply qzT | apply qzF | apply qzG | ((first | apply qzB | apply qzC); simp (disch:=omega) only [zA,bzS12.1,es,e0,i0] <;> rfl))
  refine Tl.store' S1 0 rfl sz3 rfl rfl (of_decide_eq_true rfl) fun h2 S2 _=>?_
  have S2 : Stt prog h.n h h2 [Op b (a : Int) (.slice none 0 0) z0 (.slice none 0 0)] []:=S2
  have k2:=(o_at S2 0 rfl).kind
  with_reducible repeat (first | (apply qzV; simp (disch:=omega) only [zA,bzS12.1,k2] <;> rfl) | apply qzT | apply qzF | apply qzG | ((first | apply qzB | apply qzC); simp (disch:=omega) only [zA,bzS12.1,k2] <;> rfl))
  with_reducible refine Tl.call' S2 (f70c (k:=k + 1997) (a : Int) h2) fun h3 S3 _=>?_
  by_cases p : ¬ (1 ≤ (a : Int) ∧ (a : Int) ≤ 3)
  ·rw [codV_none p]
   with_reducible repeat (first | (apply qzV; simp (disch:=omega) only [zA,bzS12.1,codNone] <;> rfl) | apply qzT | apply qzF | apply qzG | ((first | apply qzB | apply qzC); simp (disch:=omega) only [zA,bzS12.1,codNone] <;> rfl))
   exact open_bad S3 (by simp only [openB]; rw [if_pos p])
  have p2 : 1 ≤ (a : Int) ∧ (a : Int) ≤ 3:=Classical.not_not.1 p
  have cs:=fun x=>codSome p2 (a:=x)
  have c1 : pSlice prog 9 (.string (strB (a :: r))) (some (.int .i64 1)) none none h3 = some (.string (strB r)):=cut_lo (l:=a :: r) (a:=1) (by simp) h3
  with_reducible repeat (first | (apply qzV; simp (disch:=omega) only [zA,bzS12.1,cs,c1] <;> rfl) | apply qzT | apply qzF | apply qzG | ((first | apply qzB | apply qzC); simp (disch:=omega) only [zA,bzS12.1,cs,c1] <;> rfl))
  refine Tl.toBytes S3 hbr fun bv1 h4 S4 g4=>?_
  refine Tl.bind (f95c (k:=k + 999) (S4.sl1 (f:=u8v) 0 rfl) hbr (by omega) (by omega)) ?_
  rintro ⟨r5,h5⟩ (⟨l,n,lv,hg,hl4,er,g5,X⟩ | ⟨hg,er,g5⟩)
  ·simp only at er g5 X
   subst er
   have S5:=S4.gain g5 X
   obtain ⟨la,lc,eo,_⟩:=(X.slV).form
   subst eo
   with_reducible repeat (first | (apply qzV; simp (disch:=omega) only [zA,bzS12.1] <;> rfl) | apply qzT | apply qzF | apply qzG | ((first | apply qzB | apply qzC); simp (disch:=omega) only [zA,bzS12.1] <;> rfl))
   refine Tl.store' S5 0 rfl sz92 rfl rfl (of_decide_eq_true rfl) fun h6 S6 _=>?_
   have S6 : Stt prog h.n h h6 [Op b (a : Int) (.slice la (brows l).length lc) z0 (.slice none 0 0)] [(.slice la (brows l).length lc,1,brows l),(bv1,1,u8rows r)]:=S6
   have B6 : Bools h6 (.slice la (brows l).length lc) l:=S6.sl1 (f:=bv) 0 rfl
   have ll : ∀ h',pLen prog #[92] (.slice la (brows l).length lc) h' = some (.int .i64 l.length):=fun h'=>Sl1.len B6 u92
   have cc:=f96c (k:=k + 1997) B6 (by omega) (by omega)
   with_reducible repeat (first | (apply qzV; simp (disch:=omega) only [zA,bzS12.1,ll,cc,bdZd] <;> rfl) | apply qzT | apply qzF | apply qzG | ((first | apply qzB | apply qzC); simp (disch:=omega) only [zA,bzS12.1,ll,cc,bdZd] <;> rfl))
   refine Tl.store' S6 0 rfl sz53 rfl rfl (of_decide_eq_true rfl) fun h7 S7 _=>?_
   have S7 : Stt prog h.n h h7 [Op b (a : Int) (.slice la (brows l).length lc) ⟨l.length,cnt l,c0,c0⟩ (.slice none 0 0)] [(.slice la (brows l).length lc,1,brows l),(bv1,1,u8rows r)]:=S7
   have hn:=getV_len hg
   have c2 : pSlice prog 9 (.string (strB (a :: r))) (some (.int .i64 (1 + (n : Int)))) none none h7 = some (.string (strB (r.drop n))):=by
    have:=cut_lo (l:=a :: r) (a:=1 + n) (by simp; omega) h7
    rw [show ((1 + n : Nat) : Int) = 1 + (n : Int) by omega,show (a :: r).drop (1 + n) = r.drop n by rw [Nat.add_comm,List.drop_succ_cons]] at this
    exact this
   with_reducible repeat (first | (apply qzV; simp (disch:=omega) only [zA,bzS12.1,c2] <;> rfl) | apply qzT | apply qzF | apply qzG | ((first | apply qzB | apply qzC); simp (disch:=omega) only [zA,bzS12.1,c2] <;> rfl))
   have hbd : ∀ x ∈ r.drop n,x < 256:=fun x hx=>hbr x (List.mem_of_mem_drop hx)
   have hld : (r.drop n).length ≤ r.length:=by rw [List.length_drop]; omega
   refine Tl.toBytes S7 hbd fun bv2 h8 S8 g8=>?_
   refine Tl.bind (f97c (k:=k + 1997) S8 (S8.sl1 (f:=u8v) 0 rfl) (by omega)) ?_
   rintro ⟨x9,h9⟩ ⟨br,rv,L',er,S9,R9,g9⟩
   simp only at er S9 g9
   subst er
   have S9 : Stt prog h.n h h9 (Rb br rv :: Op b (a : Int) (.slice la (brows l).length lc) ⟨l.length,cnt l,c0,c0⟩ (.slice none 0 0) :: L') [(bv2,1,u8rows (r.drop n)),(.slice la (brows l).length lc,1,brows l),(bv1,1,u8rows r)]:=S9
   have R9 : RV (Rb br rv :: Op b (a : Int) (.slice la (brows l).length lc) ⟨l.length,cnt l,c0,c0⟩ (.slice none 0 0) :: L') 0 rv (r.drop n):=R9
   obtain ⟨_,_,_,ct,nl⟩:=o_at S9 1 rfl
   have hcl:=cnt_le l
   with_reducible repeat (first | (apply qzV; simp (disch:=omega) only [zA,bzS12.1,ct,nl] <;> rfl) | apply qzT | apply qzF | apply qzG | ((first | apply qzB | apply qzC); simp (disch:=omega) only [zA,bzS12.1,ct,nl] <;> rfl))
   unfold F73_rlrrrrrrrrrr
   by_cases q : l.length = cnt l
   ·with_reducible repeat (first | (apply qzV; simp (disch:=omega) only [zA,bzS12.1] <;> rfl) | apply qzT | apply qzF | apply qzG | ((first | apply qzB | apply qzC); simp (disch:=omega) only [zA,bzS12.1] <;> rfl))
    exact open_fin (k:=k + 1989) S9 R9 (by omega) (by simp only [openB]; rw [if_neg p,hg]; simp only; rw [if_pos q])
   ·with_reducible repeat (first | (apply qzV; simp (disch:=omega) only [zA,bzS12.1] <;> rfl) | apply qzT | apply qzF | apply qzG | ((first | apply qzB | apply qzC); simp (disch:=omega) only [zA,bzS12.1] <;> rfl))
    refine Tl.bind (segends_c (k:=k + 1968) p2 S9 (i:=0) rfl R9 (by omega) hbd (by omega)) ?_
    rintro ⟨x10,h10⟩ ⟨c,d,e,rv2,er,S10,hq⟩
    simp only at er S10
    subst er
    have S10 : Stt prog h.n h h10 (Rb br rv2 :: Op b (a : Int) (.slice la (brows l).length lc) ⟨l.length,cnt l,c0,c0⟩ (.slice none 0 0) :: L') [(bv2,1,u8rows (r.drop n)),(.slice la (brows l).length lc,1,brows l),(bv1,1,u8rows r)]:=S10
    with_reducible repeat (first | (apply qzV; simp (disch:=omega) only [zA,bzS12.1] <;> rfl) | apply qzT | apply qzF | apply qzG | ((first | apply qzB | apply qzC); simp (disch:=omega) only [zA,bzS12.1] <;> rfl))
    refine Tl.store' S10 1 rfl sz39 rfl rfl (of_decide_eq_true rfl) fun h11 S11 _=>?_
    have S11 : Stt prog h.n h h11 (Rb br rv2 :: Op b (a : Int) (.slice la (brows l).length lc) ⟨l.length,cnt l,c,c0⟩ (.slice none 0 0) :: L') [(bv2,1,u8rows (r.drop n)),(.slice la (brows l).length lc,1,brows l),(bv1,1,u8rows r)]:=S11
    with_reducible repeat (first | (apply qzV; simp (disch:=omega) only [zA,bzS12.1] <;> rfl) | apply qzT | apply qzF | apply qzG | ((first | apply qzB | apply qzC); simp (disch:=omega) only [zA,bzS12.1] <;> rfl))
    refine Tl.store' S11 1 rfl sz39 rfl rfl (of_decide_eq_true rfl) fun h12 S12 _=>?_
    have S12 : Stt prog h.n h h12 (Rb br rv2 :: Op b (a : Int) (.slice la (brows l).length lc) ⟨l.length,cnt l,c,d⟩ (.slice none 0 0) :: L') [(bv2,1,u8rows (r.drop n)),(.slice la (brows l).length lc,1,brows l),(bv1,1,u8rows r)]:=S12
    obtain ⟨_,kd,zn,_,_⟩:=o_at S12 1 rfl
    rcases hq with ⟨r2,he,e0',R10⟩ | ⟨he,e0'⟩
    ·subst e0'
     with_reducible repeat (first | (apply qzV; simp (disch:=omega) only [zA,bzS12.1,kd,zn] <;> rfl) | apply qzT | apply qzF | apply qzG | ((first | apply qzB | apply qzC); simp (disch:=omega) only [zA,bzS12.1,kd,zn] <;> rfl))
     with_reducible refine Tl.call' S12 (f98c (k:=k + 1986) ⟨l.length,cnt l,c,d⟩ (a : Int) h12 p2.1 p2.2 (by simp only; omega) (by simp only; omega)) fun h13 S13 _=>?_
     by_cases qz : zoneE ⟨l.length,cnt l,c,d⟩ (a : Int) = 0
     ·with_reducible repeat (first | (apply qzV; simp (disch:=omega) only [zA,bzS12.1] <;> rfl) | apply qzT | apply qzF | apply qzG | ((first | apply qzB | apply qzC); simp (disch:=omega) only [zA,bzS12.1] <;> rfl))
      refine open_fin (k:=k + 1989) S13 (R10.swap1 (by rw [sz104]; decide)) ?_ ?_
      ·have h1 : r2.length ≤ (r.drop n).length:=endB_len he
       omega
      ·simp only [openB]
       rw [if_neg p,hg]
       simp only
       rw [if_neg q,he]
       simp only
       rw [if_pos qz]
     ·with_reducible repeat (first | (apply qzV; simp (disch:=omega) only [zA,bzS12.1] <;> rfl) | apply qzT | apply qzF | apply qzG | ((first | apply qzB | apply qzC); simp (disch:=omega) only [zA,bzS12.1] <;> rfl))
      refine open_bad S13.drop ?_
      simp only [openB]
      rw [if_neg p,hg]
      simp only
      rw [if_neg q,he]
      simp only
      rw [if_neg qz]
    ·with_reducible repeat (first | (apply qzV; simp (disch:=omega) only [zA,bzS12.1] <;> rfl) | apply qzT | apply qzF | apply qzG | ((first | apply qzB | apply qzC); simp (disch:=omega) only [zA,bzS12.1] <;> rfl))
     refine open_bad S12.drop ?_
     simp only [openB]
     rw [if_neg p,hg]
     simp only
     rw [if_neg q,he]
  ·simp only at er g5
   subst er
   have S5:=S4.call g5
   with_reducible repeat (first | (apply qzV; simp (disch:=omega) only [zA,bzS12.1] <;> rfl) | apply qzT | apply qzF | apply qzG | ((first | apply qzB | apply qzC); simp (disch:=omega) only [zA,bzS12.1] <;> rfl))
   exact open_bad S5 (by simp only [openB]; rw [if_neg p,hg])
end Go.Proofs.YtlbmlncdjkdoaaaGreat.Sh
/- Flags that are put are got. No program's step in sight. -/
set_option linter.unusedVariables false
set_option linter.unusedSimpArgs false
set_option maxRecDepth 100000
namespace Go.Proofs.YtlbmlncdjkdoaaaGreat.Sh
open Go Go.RowKit Go.Proofs.Ev
theorem cnt_zero {l : List Bool} (h : cnt l = 0) : l = List.replicate l.length false:=by
 refine List.eq_replicate_iff.2 ⟨rfl,fun b hb=>?_⟩
 have:=List.count_eq_zero.1 h
 cases b
 ·rfl
 ·exact absurd hb this
theorem cnt_all {l : List Bool} (h : cnt l = l.length) : l = List.replicate l.length true:=by
 refine List.eq_replicate_iff.2 ⟨rfl,fun b hb=>?_⟩
 exact (List.count_eq_length.1 h b hb).symm
theorem mid_put (l : List Bool) (b : List Nat) (hl : l.length ≤ 4096) : mid l.length (formN l) ((if formN l = 2 then putN 1 (l.map b2n) else []) ++ b) = some (l,b):=by
 unfold mid
 by_cases q : formN l = 2
 ·simp only [if_pos q]
  have hs : szV l.length = (putN 1 (l.map b2n)).length:=by
   have:=(putN_spec 1 (l.map b2n)).2.1
   rw [List.length_map] at this
   unfold szV Pk.sizeN
   omega
  obtain ⟨t1,t2⟩:=Pk.there (l:=l.map b2n) (W:=1) (by simp; omega) (by omega) (b2n_width l)
  rw [List.length_map] at t1 t2
  have e1 : ((1 : Nat) : Int) = 1:=rfl
  rw [e1] at t1 t2
  rw [if_neg (by simp; omega),hs,List.take_left' rfl,if_neg (fun h=>h t1),t2,List.drop_left' rfl,List.map_map]
  congr 2
  conv=>rhs; rw [← List.map_id l]
  refine List.map_congr_left fun x _=>?_
  cases x <;> rfl
 ·simp only [if_neg q,List.nil_append]
  unfold formN at q ⊢
  by_cases c0 : cnt l = 0
  ·rw [if_pos c0]
   congr 2
   exact (cnt_zero c0).symm
  ·rw [if_neg c0] at q ⊢
   by_cases c1 : cnt l = l.length
   ·rw [if_pos c1]
    congr 2
    exact (cnt_all c1).symm
   ·rw [if_neg c1] at q
    exact absurd rfl q
theorem get_put (l : List Bool) (b : List Nat) (hl : l.length ≤ 4096) : getV (putV l ++ b) = some (l,(putV l).length):=by
 have hd : dec 0 0 (putV l ++ b) = some (l.length,formN l :: ((if formN l = 2 then putN 1 (l.map b2n) else []) ++ b)):=by
  have:=dec_pvar ((formN l :: (if formN l = 2 then putN 1 (l.map b2n) else [])) ++ b) l.length (i:=0) (acc:=0) (.inl rfl) (by simp; omega)
  unfold putV
  rw [List.append_assoc,this]
  simp
 unfold getV
 rw [hd]
 simp only
 have hf:=formN_le l
 rw [if_neg (by omega),if_neg (by omega),mid_put l b hl]
 simp only [List.length_append]
 have e : (putV l).length + b.length - b.length = (putV l).length:=by omega
 rw [e,List.take_left' rfl,if_pos rfl]
end Go.Proofs.YtlbmlncdjkdoaaaGreat.Sh
