/- What lies ahead of the law, put together. -/
import Derived.Test.YtlbmlncdjkdoaaaGreatSzF
import Derived.Test.YtlbmlncdjkdoaaaGreatSzT
import Derived.Test.YtlbmlncdjkdoaaaGreatSzM2
import Derived.Test.YtlbmlncdjkdoaaaGreatSzM3
import Derived.Test.YtlbmlncdjkdoaaaGreatEvC
import Derived.Test.YtlbmlncdjkdoaaaGreatSzT2
import Derived.Test.YtlbmlncdjkdoaaaGreatBits
import Derived.Test.YtlbmlncdjkdoaaaGreatSzM1
import Derived.Lib.DecodeN
/- What the functions of the nulls' package come to: 'count', 'Spread', 'Same'. -/
set_option linter.unusedVariables false
set_option linter.unusedSimpArgs false
set_option maxRecDepth 100000
namespace Go.Proofs.YtlbmlncdjkdoaaaGreat.Sh
open Go Go.RowKit Go.Proofs.Ev
open Tryz (prog)
def bzNa:=PLift.up (ai @ld3 (ai @ld4 (ai @ld5 (ai @ld92 (ai @ld24 (ai @ld93 (ai (fun ox oy a b=>bin_eql_bool (ox:=ox) (oy:=oy) (a:=a) (b:=b) u4) ((fun ox oy a b=>bin_neq_bool (ox:=ox) (oy:=oy) (a:=a) (b:=b) u4)))))))))
def bv (b : Bool) : Value:=.bool b
def Bools (h : AH) (v : Value) (l : List Bool) : Prop:=Sl1 prog h v bv l
def cnt (l : List Bool) : Nat:=l.count true
theorem drop_cons {α : Type} {l : List α} {i : Nat} {x : α} (h : l[i]? = some x) : l.drop i = x :: l.drop (i + 1):=by
 have hlt : i < l.length:=(List.getElem?_eq_some_iff.1 h).1
 rw [List.drop_eq_getElem_cons hlt]
 rw [List.getElem?_eq_getElem hlt] at h
 cases h; rfl
theorem f117_loop {β : Type} {k : Nat} {Q : β→Prop} {h : AH} {v : Value} {l : List Bool} (S : Bools h v l) (hl : l.length ≤ 2 ^ 40) {ke0 : Value→Value→Value→Value→Value→AH→Option β} (n : Nat) :
  ∀ {i j c : Nat},i + n = l.length→n < j→c ≤ i→c + cnt (l.drop i) = cnt l →
   (∀ y y',Tl (ke0 (.int .i64 (cnt l)) v (.int .i64 l.length) y y' h) Q) →
   Tl (F117_lrlr (eInv env k) k j (.int .i64 c) v (.int .i64 l.length) (.int .i64 i) h ke0) Q:=by
 induction n with
 | zero =>
  intro i j c hi hj hc hs hk
  obtain ⟨j,rfl⟩ : ∃ q,j = q + 1:=⟨j - 1,by omega⟩
  simp only [F117_lrlr]
  with_reducible repeat (first | (apply qzV; simp (disch:=omega) only [zA,bzNa.1] <;> rfl) | apply qzT | apply qzF | (apply qzB; simp (disch:=omega) only [zA,bzNa.1] <;> rfl))
  rw [List.drop_eq_nil_of_le (by omega)] at hs
  have : c = cnt l:=by simpa [cnt] using hs
  rw [this]
  exact hk _ _
 | succ n ih =>
  intro i j c hi hj hc hs hk
  obtain ⟨j,rfl⟩ : ∃ q,j = q + 1:=⟨j - 1,by omega⟩
  have hlt : i < l.length:=by omega
  obtain ⟨x,hx⟩ : ∃ x,l[i]? = some x:=⟨_,List.getElem?_eq_getElem hlt⟩
  obtain ⟨b,o,hp,hc1⟩:=Sl1.at_ S (t:=119) (k:=.i64) hx (by kernel_rfl) sz4
  have hc1:=hc1 h (Grow.refl _)
  rw [drop_cons hx] at hs
  simp only [F117_lrlr]
  unfold F117_lrrllrlr
  with_reducible repeat (first | (apply qzV; simp (disch:=omega) only [zA,bzNa.1,hp,hc1,bv] <;> rfl) | apply qzT | apply qzF | (apply qzB; simp (disch:=omega) only [zA,bzNa.1,hp,hc1,bv] <;> rfl))
  have e : (i : Int) + 1 = ((i + 1 : Nat) : Int):=by omega
  cases x
  ·with_reducible repeat (first | (apply qzV; simp (disch:=omega) only [zA,bzNa.1] <;> rfl) | apply qzT | apply qzF | (apply qzB; simp (disch:=omega) only [zA,bzNa.1] <;> rfl))
   rw [e]
   exact ih (by omega) (by omega) (by omega) (by simpa [cnt] using hs) hk
  ·have e2 : (c : Int) + 1 = ((c + 1 : Nat) : Int):=by omega
   with_reducible repeat (first | (apply qzV; simp (disch:=omega) only [zA,bzNa.1] <;> rfl) | apply qzT | apply qzF | (apply qzB; simp (disch:=omega) only [zA,bzNa.1] <;> rfl))
   rw [e,e2]
   exact ih (by omega) (by omega) (by omega) (by simp [cnt] at hs ⊢; omega) hk
theorem f117c {k : Nat} {h : AH} {v : Value} {l : List Bool} (S : Bools h v l) (hl : l.length ≤ 2 ^ 40) (hk : l.length < k) : eInv env (k + 1) (.func 117) #[] #[v] h = some (.int .i64 (cnt l),h):=by
 have T : Tl (F117 (eInv env k) k v h) fun r=>r = (.int .i64 (cnt l),h):=by
  unfold F117
  have hlen : ∀ h',pLen prog #[119] v h' = some (.int .i64 l.length):=fun h'=>Sl1.len S (e:=4) (by kernel_rfl)
  with_reducible repeat (first | (apply qzV; simp (disch:=omega) only [zA,bzNa.1,hlen] <;> rfl) | apply qzT | apply qzF | (apply qzB; simp (disch:=omega) only [zA,bzNa.1,hlen] <;> rfl))
  exact f117_loop S hl l.length (i:=0) (c:=0) (by omega) (by omega) (by omega) (by simp) fun y y'=>⟨_,rfl,rfl⟩
 obtain ⟨r,h1,h2⟩:=T
 rw [F117_call,h1,h2]
def brows (l : List Bool) : List (List Value):=l.map fun z=>[bv z]
theorem brows_len (l : List Bool) : (brows l).length = l.length:=List.length_map ..
end Go.Proofs.YtlbmlncdjkdoaaaGreat.Sh
/- What 'Put' of the nulls' package comes to. -/
set_option linter.unusedVariables false
set_option linter.unusedSimpArgs false
set_option maxRecDepth 100000
namespace Go.Proofs.YtlbmlncdjkdoaaaGreat.Sh
open Go Go.RowKit Go.Proofs.Ev
open Tryz (prog)
def bzNb:=PLift.up (ai @ld3 (ai @ld4 (ai @ld5 (ai @ld92 (ai @ld24 (ai @ld93 (ai @ld121 (ai @ld124 (ai (fun a h=>conv_int (a:=a) (h:=h) u3 u121) (ai (fun a h=>conv_int (a:=a) (h:=h) u121 u3) (ai (fun ox oy a b=>bin_eql_bool (ox:=ox) (oy:=oy) (a:=a) (b:=b) u4) (ai (fun ox oy a b=>bin_neq_bool (ox:=ox) (oy:=oy) (a:=a) (b:=b) u4) (ai @ex2_0 (@ex2_1))))))))))))))
def formN (l : List Bool) : Nat:=if cnt l = 0 then 0 else if cnt l = l.length then 1 else 2
def b2n (b : Bool) : Nat:=if b then 1 else 0
def putV (l : List Bool) : List Nat:=pvarN l.length ++ (formN l :: if formN l = 2 then putN 1 (l.map b2n) else [])
theorem f87c {k : Nat} {h : AH} {v : Value} {l : List Bool} (S : Bools h v l) (hl : l.length ≤ 2 ^ 40) (hk : l.length < k) : eInv env (k + 2) (.func 87) #[] #[v] h = some (.int .u8 (formN l : Int),h):=by
 have T : Tl (F87 (eInv env (k + 1)) (k + 1) v h) fun r=>r = (.int .u8 (formN l : Int),h):=by
  unfold F87 formN
  have hlen : ∀ h',pLen prog #[119] v h' = some (.int .i64 l.length):=fun h'=>Sl1.len S u119
  have hc:=f117c S hl hk
  by_cases e1 : cnt l = 0
  ·rw [if_pos e1]
   with_reducible repeat (first | (apply qzV; simp (disch:=omega) only [zA,bzNb.1,hc] <;> rfl) | apply qzT | apply qzF | (apply qzB; simp (disch:=omega) only [zA,bzNb.1,hc] <;> rfl))
   exact ⟨_,rfl,rfl⟩
  ·rw [if_neg e1]
   by_cases e2 : cnt l = l.length
   ·rw [if_pos e2]
    with_reducible repeat (first | (apply qzV; simp (disch:=omega) only [zA,bzNb.1,hc,hlen] <;> rfl) | apply qzT | apply qzF | (apply qzB; simp (disch:=omega) only [zA,bzNb.1,hc,hlen] <;> rfl))
    exact ⟨_,rfl,rfl⟩
   ·rw [if_neg e2]
    with_reducible repeat (first | (apply qzV; simp (disch:=omega) only [zA,bzNb.1,hc,hlen] <;> rfl) | apply qzT | apply qzF | (apply qzB; simp (disch:=omega) only [zA,bzNb.1,hc,hlen] <;> rfl))
    exact ⟨_,rfl,rfl⟩
 obtain ⟨r,h1,h2⟩:=T
 rw [F87_call,h1,h2]
theorem f89_loop {β : Type} {k : Nat} {Q : β→Prop} {h0 : AH} {v ov : Value} {l : List Bool} (S : Bools h0 v l) (hl : l.length ≤ 2 ^ 30) {ke0 : Value→Value→Value→Value→Value→AH→Option β} (n : Nat) :
  ∀ {i j : Nat} {h : AH} {done : List Nat},i + n = l.length→n < j→done.length = l.length→done = (l.take i).map b2n ++ List.replicate n 0→Stt prog h0.n h0 h [] [(ov,1,u64rows done)] →
   (∀ h' y y',Stt prog h0.n h0 h' [] [(ov,1,u64rows (l.map b2n))]→Tl (ke0 ov v (.int .i64 l.length) y y' h') Q) →
   Tl (F89_lrlrr (eInv env k) k j ov v (.int .i64 l.length) (.int .i64 i) h ke0) Q:=by
 induction n with
 | zero =>
  intro i j h done hi hj hd he T hk
  obtain ⟨j,rfl⟩ : ∃ q,j = q + 1:=⟨j - 1,by omega⟩
  simp only [F89_lrlrr]
  with_reducible repeat (first | (apply qzV; simp (disch:=omega) only [zA,bzNb.1] <;> rfl) | apply qzT | apply qzF | (apply qzB; simp (disch:=omega) only [zA,bzNb.1] <;> rfl))
  rw [List.take_of_length_le (by omega)] at he
  have : done = l.map b2n:=by simpa using he
  subst this
  exact hk _ _ _ T
 | succ n ih =>
  intro i j h done hi hj hd he T hk
  obtain ⟨j,rfl⟩ : ∃ q,j = q + 1:=⟨j - 1,by omega⟩
  obtain ⟨x,hx⟩ : ∃ x,l[i]? = some x:=⟨_,List.getElem?_eq_getElem (by omega)⟩
  obtain ⟨b,o,hp,hc1⟩:=Sl1.at_ (S.grow T.grow) (t:=119) (k:=.i64) hx u119 sz4
  have hc1:=hc1 h (Grow.refl _)
  obtain ⟨bm,em,hm⟩:=T.idx (t:=124) 0 rfl (kd:=.i64) (j:=i) (by rw [u64rows_len]; omega) u124 sz121
  have e : (i : Int) + 1 = ((i + 1 : Nat) : Int):=by omega
  have hti : l.take (i + 1) = l.take i ++ [x]:=by rw [List.take_add_one,hx]; rfl
  have hlt : ((l.take i).map b2n).length = i:=by simp; omega
  simp only [F89_lrlrr]
  unfold F89_lrrllrlrr
  cases x
  ·with_reducible repeat (first | (apply qzV; simp (disch:=omega) only [zA,bzNb.1,hp,hc1,bv] <;> rfl) | apply qzT | apply qzF | (apply qzB; simp (disch:=omega) only [zA,bzNb.1,hp,hc1,bv] <;> rfl))
   rw [e]
   refine ih (done:=done) (by omega) (by omega) hd ?_ T hk
   rw [hti,he,List.map_append,List.replicate_succ]
   simp [b2n]
  ·with_reducible repeat (first | (apply qzV; simp (disch:=omega) only [zA,bzNb.1,hp,hc1,bv,hm] <;> rfl) | apply qzT | apply qzF | (apply qzB; simp (disch:=omega) only [zA,bzNb.1,hp,hc1,bv,hm] <;> rfl))
   refine Tl.setAt T 0 rfl em (by rw [u64rows_len]; omega) rfl sz121 rfl fun h' T'=>?_
   with_reducible repeat (first | (apply qzV; simp (disch:=omega) only [zA,bzNb.1] <;> rfl) | apply qzT | apply qzF | (apply qzB; simp (disch:=omega) only [zA,bzNb.1] <;> rfl))
   rw [e]
   refine ih (done:=done.set i 1) (by omega) (by omega) (by simp [hd]) ?_ (by simpa [u64rows,u64v,List.map_set,Value.cells] using T') hk
   rw [hti,he,List.map_append,List.replicate_succ,List.set_append_right _ _ (by omega),hlt,Nat.sub_self]
   simp [b2n]
theorem f89c {k : Nat} {h : AH} {v : Value} {l : List Bool} (S : Bools h v l) (hl : l.length ≤ 2 ^ 30) (hk : l.length < k) :
  Tl (eInv env (k + 1) (.func 89) #[] #[v] h) fun r=>OwnB prog h.n r.2 r.1 1 (u64rows (l.map b2n)) ∧ Grow h r.2:=by
 rw [F89_call]
 unfold F89
 have hlen : ∀ h',pLen prog #[119] v h' = some (.int .i64 l.length):=fun h'=>Sl1.len S u119
 with_reducible repeat (first | (apply qzV; simp (disch:=omega) only [zA,bzNb.1,hlen] <;> rfl) | apply qzT | apply qzF | (apply qzB; simp (disch:=omega) only [zA,bzNb.1,hlen] <;> rfl))
 refine Tl.make' (Stt.init h) app124 ze121 (by omega) (by omega) fun ov h1 S1 g1=>?_
 have S1 : Stt prog h.n h h1 [] [(ov,1,u64rows (List.replicate l.length 0))]:=by
  have e : u64rows (List.replicate l.length 0) = List.replicate l.length [.int .u64 0]:=by simp [u64rows,u64v]
  rw [e]; exact S1
 with_reducible repeat (first | (apply qzV; simp (disch:=omega) only [zA,bzNb.1,hlen] <;> rfl) | apply qzT | apply qzF | (apply qzB; simp (disch:=omega) only [zA,bzNb.1,hlen] <;> rfl))
 refine f89_loop S hl l.length (i:=0) (by omega) (by omega) (by simp) (by simp) S1 fun h' y y' T=>?_
 exact ⟨_,rfl,T.ret 0 rfl,T.grow⟩
theorem formN_le (l : List Bool) : formN l ≤ 2:=by unfold formN; split <;> (try split) <;> omega
theorem putV_len {l : List Bool} (hl : l.length ≤ 4096) : (putV l).length ≤ 600:=by
 have h1:=pvarN_le10 (n:=l.length) (by omega)
 have h2 : (putN 1 (l.map b2n)).length ≤ 520:=by
  have:=(putN_spec 1 (l.map b2n)).2.1
  rw [List.length_map] at this
  omega
 unfold putV
 split <;> simp <;> omega
theorem b2n_width (l : List Bool) : Pk.widthN (l.map b2n) ≤ 1:=by
 rw [Pk.width_le]
 intro x hx
 obtain ⟨b,_,rfl⟩:=List.mem_map.1 hx
 cases b <;> simp [b2n]
/-- 'Put'. -/
theorem f69c {k : Nat} {h : AH} {v : Value} {l : List Bool} (S : Bools h v l) (hl : l.length ≤ 4096) (hk : l.length < k) :
  Tl (eInv env (k + 500) (.func 69) #[] #[v] h) fun r=>∃ o,r.1 = .tuple #[o,.int .i64 0] ∧ Grow h r.2 ∧ OwnB prog h.n r.2 o 1 (u8rows (putV l)):=by
 rw [F69_call]
 unfold F69
 have hlen : ∀ h',pLen prog #[92] v h' = some (.int .i64 l.length):=fun h'=>Sl1.len S u92
 with_reducible repeat (first | (apply qzV; simp (disch:=omega) only [zA,bzNb.1,hlen] <;> rfl) | apply qzT | apply qzF | (apply qzB; simp (disch:=omega) only [zA,bzNb.1,hlen] <;> rfl))
 refine Tl.bind (f86c (k:=k + 479) (l:=[]) l.length (by omega) (by simp) ((Stt.init h).nil 1 : Stt prog h.n h h [] ((_,1,u8rows []) :: []))) ?_
 rintro ⟨ov,h1⟩ S1
 simp only [List.nil_append] at S1
 have hf:=f87c (k:=k + 497) (S.grow S1.grow) (by omega) (by omega)
 have h10:=pvarN_le10 (n:=l.length) (by omega)
 have hfl:=formN_le l
 with_reducible repeat (first | (apply qzV; simp (disch:=omega) only [zA,bzNb.1,hf] <;> rfl) | apply qzT | apply qzF | (apply qzB; simp (disch:=omega) only [zA,bzNb.1,hf] <;> rfl))
 refine Tl.push S1 0 rfl app93 (bs93 _ _) rfl rfl (by rw [u8rows_len]; omega) fun ov2 h2 S2=>?_
 have hf2:=f87c (k:=k + 497) (S.grow S2.grow) (by omega) (by omega)
 have e2 : u8rows (pvarN l.length) ++ [[.int .u8 (formN l : Int)]] = u8rows (pvarN l.length ++ [formN l]):=by simp [u8rows,u8v]
 have S2 : Stt prog h.n h h2 [] [(ov2,1,u8rows (pvarN l.length ++ [formN l]))]:=by rw [← e2]; exact S2
 by_cases q : formN l = 2
 ·with_reducible repeat (first | (apply qzV; simp (disch:=omega) only [zA,bzNb.1,hf2] <;> rfl) | apply qzT | apply qzF | (apply qzB; simp (disch:=omega) only [zA,bzNb.1,hf2] <;> rfl))
  refine Tl.callO S2 (f89c (k:=k + 498) (S.grow S2.grow) (by omega) (by omega)) fun wv h3 S3 g3=>?_
  refine Tl.bind (f88c (k:=k + 198) (S3.sl1 0 rfl) (by simp; omega) (by simp; omega) (fun x hx=>?_) 1) ?_
  ·obtain ⟨b,_,rfl⟩:=List.mem_map.1 hx
   cases b <;> simp [b2n]
  rintro ⟨r,h4⟩ ⟨pv,er,g4,X⟩
  simp only at er g4 X
  subst er
  have pe : Pk.putE (l.map b2n) 1 = 0:=Pk.putE_of (W:=1) (by simp; omega) (by omega) (b2n_width l)
  have pl : Pk.putL (l.map b2n) 1 = putN 1 (l.map b2n):=by unfold Pk.putL; rw [if_pos pe]; rfl
  rw [pl] at X
  have S4:=S3.gain g4 X
  with_reducible repeat (first | (apply qzV; simp (disch:=omega) only [zA,bzNb.1,pe] <;> rfl) | apply qzT | apply qzF | (apply qzB; simp (disch:=omega) only [zA,bzNb.1,pe] <;> rfl))
  have hpl : (putN 1 (l.map b2n)).length ≤ 520:=by
   have:=(putN_spec 1 (l.map b2n)).2.1
   rw [List.length_map] at this
   omega
  refine Tl.append' S4 2 rfl app93 (S4.slV 0 rfl) (one_u8rows _) (by rw [u8rows_len,u8rows_len]; simp; omega) fun ov3 h5 S5=>?_
  with_reducible repeat (first | (apply qzV; simp (disch:=omega) only [zA,bzNb.1] <;> rfl) | apply qzT | apply qzF | (apply qzB; simp (disch:=omega) only [zA,bzNb.1] <;> rfl))
  refine ⟨_,rfl,ov3,rfl,S5.grow,?_⟩
  have:=S5.ret 2 rfl
  have e3 : u8rows (pvarN l.length ++ [formN l]) ++ u8rows (putN 1 (l.map b2n)) = u8rows (putV l):=by
   unfold putV
   rw [if_pos q]
   simp [u8rows]
  rw [e3] at this
  exact this
 ·with_reducible repeat (first | (apply qzV; simp (disch:=omega) only [zA,bzNb.1,hf2] <;> rfl) | apply qzT | apply qzF | (apply qzB; simp (disch:=omega) only [zA,bzNb.1,hf2] <;> rfl))
  refine ⟨_,rfl,ov2,rfl,S2.grow,?_⟩
  have:=S2.ret 0 rfl
  have e3 : pvarN l.length ++ [formN l] = putV l:=by
   unfold putV
   rw [if_neg q]
  rw [e3] at this
  exact this
end Go.Proofs.YtlbmlncdjkdoaaaGreat.Sh
/- What 'segment.Put' comes to. -/
set_option linter.unusedVariables false
set_option linter.unusedSimpArgs false
set_option maxRecDepth 100000
namespace Go.Proofs.YtlbmlncdjkdoaaaGreat.Sh
open Go Go.RowKit Go.Proofs.Ev Go.Lib
open Tryz (prog)
def bzS5:=PLift.up (ai @ld3 (ai @ld2 (ai @ld9 (ai @ld4 (ai @ld39 (ai @fa39_0 (ai @fa39_1 (ai @fa39_2 (ai (fun a h=>conv_int (a:=a) (h:=h) u3 u5) (ai @aggC (ai @ex2_0 (ai @ex2_1 (@Nat.add_zero)))))))))))))
theorem appCs : AppT prog #[34,34] 39 3 32:=⟨by kernel_rfl,⟨39,by kernel_rfl⟩,by kernel_rfl,by omega,by kernel_rfl,⟨_,ze39,rfl,rfl⟩⟩
theorem bsCs (c : CellD) (h : AH) : pBuildSlice prog 34 1 #[(0,c.v)] h = some (.slice (some ⟨h.n,0,none⟩) 1 1,h.alloc (.cells (crow c) 39 true)):=by kernel_rfl
def flg (l : List CellD) : List Bool:=l.map fun c=>decide (c.k = 0)
def crows (l : List CellD) : List (List Value):=l.map crow
theorem crows_len (l : List CellD) : (crows l).length = l.length:=List.length_map ..
def flx (l : List CellD) (i : Nat) : List Bool:=flg (l.take i) ++ List.replicate (l.length - i) false
theorem flx_len {l : List CellD} {i : Nat} (h : i ≤ l.length) : (flx l i).length = l.length:=by simp [flx,flg]; omega
theorem flx_set {l : List CellD} {i : Nat} {c : CellD} (hc : l[i]? = some c) : (flx l i).set i (decide (c.k = 0)) = flx l (i + 1):=by
 have hlt:=(List.getElem?_eq_some_iff.1 hc).1
 have hti : l.take (i + 1) = l.take i ++ [c]:=by rw [List.take_add_one,hc]; rfl
 have hr : l.length - i = (l.length - (i + 1)) + 1:=by omega
 have hl : (flg (l.take i)).length = i:=by simp [flg]; omega
 unfold flx
 rw [hti,hr,List.replicate_succ,List.set_append_right _ _ (by omega),hl,Nat.sub_self]
 simp [flg]
theorem vals_step {l : List CellD} {i : Nat} {c : CellD} (hc : l[i]? = some c) : vals (l.take (i + 1)) = if c.k = 0 then vals (l.take i) else vals (l.take i) ++ [c]:=by
 have hti : l.take (i + 1) = l.take i ++ [c]:=by rw [List.take_add_one,hc]; rfl
 rw [hti]
 unfold vals
 rw [List.filter_append]
 by_cases h : c.k = 0 <;> simp [h]
theorem f45_loop {β : Type} {k : Nat} {Q : β→Prop} {h0 : AH} {v kv : Value} {l : List CellD} (A : Cells h0 v l) (hl : l.length ≤ 4096) {ke0 : Value→Value→Value→Value→Value→Value→Value→AH→Option β} (n : Nat) :
  ∀ {i j : Nat} {h : AH} {nv sv : Value},i + n = l.length→n < j→Stt prog h0.n h0 h [] [(nv,1,brows (flx l i)),(sv,3,crows (vals (l.take i)))] →
   (∀ h' nv' sv' y1 y2,Stt prog h0.n h0 h' [] [(nv',1,brows (flg l)),(sv',3,crows (vals l))]→Tl (ke0 kv nv' sv' v (.int .i64 l.length) y1 y2 h') Q) →
   Tl (F45_lrlrrrr (eInv env k) k j kv nv sv v (.int .i64 l.length) (.int .i64 i) h ke0) Q:=by
 induction n with
 | zero =>
  intro i j h nv sv hi hj T hk
  obtain ⟨j,rfl⟩ : ∃ q,j = q + 1:=⟨j - 1,by omega⟩
  simp only [F45_lrlrrrr]
  with_reducible repeat (first | (apply qzV; simp (disch:=omega) only [zA,bzS5.1] <;> rfl) | apply qzT | apply qzF | (apply qzB; simp (disch:=omega) only [zA,bzS5.1] <;> rfl))
  have e1 : flx l i = flg l:=by unfold flx; rw [List.take_of_length_le (by omega),show l.length - i = 0 by omega]; simp
  rw [e1,List.take_of_length_le (by omega)] at T
  exact hk _ _ _ _ _ T
 | succ n ih =>
  intro i j h nv sv hi hj T hk
  obtain ⟨j,rfl⟩ : ∃ q,j = q + 1:=⟨j - 1,by omega⟩
  obtain ⟨c,hc⟩ : ∃ c,l[i]? = some c:=⟨_,List.getElem?_eq_getElem (by omega)⟩
  obtain ⟨b,o,hx,hr⟩:=(A.grow T.grow).at_ hc
  have e : (i : Int) + 1 = ((i + 1 : Nat) : Int):=by omega
  have hfl:=flx_len (l:=l) (i:=i) (by omega)
  obtain ⟨bm,em,hm⟩:=T.idx (t:=92) 0 rfl (kd:=.i64) (j:=i) (by rw [brows_len]; omega) u92 sz4
  have hvs:=vals_step hc
  have hvl : (vals (l.take i)).length ≤ 4096:=by have:=vals_le (l.take i); rw [List.length_take] at this; omega
  simp only [F45_lrlrrrr]
  unfold F45_lrrllrlrrrr
  with_reducible repeat (first | (apply qzV; simp (disch:=omega) only [zA,bzS5.1,hx,hr] <;> rfl) | apply qzT | apply qzF | (apply qzB; simp (disch:=omega) only [zA,bzS5.1,hx,hr] <;> rfl))
  refine Tl.alloc' T ze39 rfl fun b4 h1 T1 _=>?_
  refine Tl.store' T1 0 rfl sz39 rfl rfl (of_decide_eq_true rfl) fun h2 T2 _=>?_
  have T2 : Stt prog h0.n h0 h2 [Cr b4 c] [(nv,1,brows (flx l i)),(sv,3,crows (vals (l.take i)))]:=T2
  obtain ⟨_,k4,_⟩:=c_at T2 0 rfl
  have dc : (c.k == 0) = decide (c.k = 0):=by by_cases q : c.k = 0 <;> simp [q]
  with_reducible repeat (first | (apply qzV; simp (disch:=omega) only [zA,bzS5.1,k4,hm,dc] <;> rfl) | apply qzT | apply qzF | (apply qzB; simp (disch:=omega) only [zA,bzS5.1,k4,hm,dc] <;> rfl))
  refine Tl.setAt T2 0 rfl em (by rw [brows_len]; omega) rfl sz4 rfl fun h3 T3=>?_
  have e3 : (brows (flx l i)).set i (Value.bool (decide (c.k = 0))).cells.toList = brows (flx l (i + 1)):=by rw [← flx_set hc]; simp [brows,bv,List.map_set,Value.cells]
  have T3 : Stt prog h0.n h0 h3 [Cr b4 c] [(nv,1,brows (flx l (i + 1))),(sv,3,crows (vals (l.take i)))]:=by rw [← e3]; exact T3
  have gi : (flx l (i + 1))[i]? = some (decide (c.k = 0)):=by rw [← flx_set hc,List.getElem?_set_self (by omega)]
  obtain ⟨b5,o5,hp5,hc5⟩:=Sl1.at_ (T3.sl1 (f:=bv) 0 rfl) (t:=92) (k:=.i64) gi u92 sz4
  have hc5:=hc5 h3 (Grow.refl _)
  obtain ⟨r4,_⟩:=c_at T3 0 rfl
  by_cases q : c.k = 0
  ·rw [if_pos q] at hvs
   have qd:=decide_eq_true q
   rw [qd] at hc5
   unfold bv at hc5
   with_reducible repeat (first | (apply qzV; simp (disch:=omega) only [zA,bzS5.1,hp5,hc5] <;> rfl) | apply qzT | apply qzF | (apply qzB; simp (disch:=omega) only [zA,bzS5.1,hp5,hc5] <;> rfl))
   rw [e]
   refine ih (by omega) (by omega) ?_ hk
   rw [hvs]
   exact T3.drop
  ·rw [if_neg q] at hvs
   have qd:=decide_eq_false q
   rw [qd] at hc5
   unfold bv at hc5
   with_reducible repeat (first | (apply qzV; simp (disch:=omega) only [zA,bzS5.1,hp5,hc5,r4] <;> rfl) | apply qzT | apply qzF | (apply qzB; simp (disch:=omega) only [zA,bzS5.1,hp5,hc5,r4] <;> rfl))
   refine Tl.push T3 1 rfl appCs (bsCs _ _) rfl rfl (by rw [crows_len]; omega) fun sv' h5 T5=>?_
   with_reducible repeat (first | (apply qzV; simp (disch:=omega) only [zA,bzS5.1] <;> rfl) | apply qzT | apply qzF | (apply qzB; simp (disch:=omega) only [zA,bzS5.1] <;> rfl))
   rw [e]
   refine ih (by omega) (by omega) ?_ hk
   rw [hvs]
   have e5 : crows (vals (l.take i)) ++ [crow c] = crows (vals (l.take i) ++ [c]):=by simp [crows]
   rw [← e5]
   exact T5.drop
end Go.Proofs.YtlbmlncdjkdoaaaGreat.Sh
/- What 'segment.Put' comes to: the whole. -/
set_option linter.unusedVariables false
set_option linter.unusedSimpArgs false
set_option maxRecDepth 100000
namespace Go.Proofs.YtlbmlncdjkdoaaaGreat.Sh
open Go Go.RowKit Go.Proofs.Ev Go.Lib
open Tryz (prog)
def bzS6:=PLift.up (ai @ld3 (ai @ld2 (ai @ld9 (ai @ld4 (ai @ld39 (ai @fa39_0 (ai @fa39_1 (ai @fa39_2 (ai (fun a h=>conv_int (a:=a) (h:=h) u3 u5) (ai @aggC (ai @ex2_0 (ai @ex2_1 (@Nat.add_zero)))))))))))))
/-! ### What is put -/
def oneB (kind : Int) (c : CellD) : List Nat:=if kind = 1 then oneN c else if kind = 2 then oneT c else oneW c
def cellsE (kind : Int) (l : List CellD) : Int:=if kind = 1 then 0 else if kind = 2 then Pk.putE (valsT l) 1 else checkT (valsW l)
def cellsB (kind : Int) (l : List CellD) : List Nat:=if kind = 1 then putI (valsN l) else if kind = 2 then Pk.putL (valsT l) 1 else putT (valsW l)
def tailB (kind : Int) (l : List CellD) : List Nat:=if l = [] then [] else (oneB kind (ofZ l).mn ++ oneB kind (ofZ l).mx) ++ cellsB kind l
def segB (kind : Int) (l : List CellD) : List Nat:=[kind.toNat] ++ putV (flg l) ++ tailB kind (vals l)
def goodC (kind : Int) (c : CellD) : Prop:=c.k = kind ∧ cellE c = 0
theorem and1_01 (i : Int) : and1 i = 0 ∨ and1 i = 1:=by
 unfold and1
 have h : (BitVec.ofInt 64 i &&& BitVec.ofInt 64 1).toNat ≤ 1:=by
  rw [BitVec.toNat_and]
  have : (BitVec.ofInt 64 1).toNat = 1:=by decide
  rw [this,Nat.and_one_is_mod]
  omega
 generalize (BitVec.ofInt 64 i &&& BitVec.ofInt 64 1).toNat = n at h
 have : n = 0 ∨ n = 1:=by omega
 rcases this with rfl | rfl
 ·exact .inl (by decide)
 ·exact .inr (by decide)
theorem cellE_size {c : CellD} (h : cellE c = 0) : c.s.size ≤ 65536:=by
 unfold cellE at h
 split at h
 ·cases h
 ·omega
theorem cellE_bare {c : CellD} (h : cellE c = 0) : bare c = c:=by
 unfold cellE at h
 split at h
 ·cases h
 ·split at h
  ·split at h
   ·assumption
   ·cases h
  ·cases h
theorem good_bool {c : CellD} (h : goodC 2 c) : c.i = 0 ∨ c.i = 1:=by
 have hb:=cellE_bare h.2
 unfold bare at hb
 rw [if_neg (by rw [h.1]; decide),if_neg (by rw [h.1]; decide),if_pos h.1] at hb
 have : and1 c.i = c.i:=congrArg CellD.i hb
 have h2:=and1_01 c.i
 rw [this] at h2
 exact h2
theorem chkE_all {kind : Int} : ∀ {l : List CellD},chkE kind l = 0 ↔ ∀ c ∈ l,cellE c = 0 ∧ (c.k = kind ∨ c.k = 0)
 | []=>by simp [chkE]
 | c :: l=>by
  have ih:=chkE_all (kind:=kind) (l:=l)
  unfold chkE
  by_cases h1 : cellE c = 0
  ·rw [if_neg (by simpa using h1)]
   by_cases h2 : c.k ≠ kind ∧ c.k ≠ 0
   ·rw [if_pos h2]
    simp only [List.mem_cons,forall_eq_or_imp]
    constructor
    ·intro q; cases q
    ·rintro ⟨⟨_,q | q⟩,_⟩
     ·exact absurd q h2.1
     ·exact absurd q h2.2
   ·rw [if_neg h2,ih]
    simp only [List.mem_cons,forall_eq_or_imp]
    have : c.k = kind ∨ c.k = 0:=by
     by_cases q : c.k = kind
     ·exact .inl q
     ·exact .inr (Classical.not_not.1 fun q2=>h2 ⟨q,q2⟩)
    exact ⟨fun q=>⟨⟨h1,this⟩,q⟩,fun q=>q.2⟩
  ·rw [if_pos h1]
   simp only [List.mem_cons,forall_eq_or_imp]
   exact ⟨fun q=>absurd q h1,fun q=>absurd q.1.1 h1⟩
theorem segE_zero {kind : Int} {l : List CellD} : segE kind l = 0 ↔ (1 ≤ kind ∧ kind ≤ 3) ∧ l.length ≤ 4096 ∧ ∀ c ∈ l,cellE c = 0 ∧ (c.k = kind ∨ c.k = 0):=by
 unfold segE
 by_cases p : 1 ≤ kind ∧ kind ≤ 3
 ·rw [if_pos p]
  by_cases q : l.length > 4096
  ·rw [if_pos q]
   constructor
   ·intro h; cases h
   ·intro h; omega
  ·rw [if_neg q,chkE_all]
   exact ⟨fun h=>⟨p,by omega,h⟩,fun h=>h.2.2⟩
 ·rw [if_neg p]
  constructor
  ·intro h; cases h
  ·intro h; exact absurd h.1 p
theorem good_vals {kind : Int} {l : List CellD} (h : ∀ c ∈ l,cellE c = 0 ∧ (c.k = kind ∨ c.k = 0)) : ∀ c ∈ vals l,goodC kind c:=fun c hc=>by
 have hm : c ∈ l ∧ c.k ≠ 0:=by simpa [vals] using hc
 obtain ⟨h1,h2⟩:=h c hm.1
 exact ⟨h2.resolve_right hm.2,h1⟩
theorem cellsE_zero {kind : Int} (hk : 1 ≤ kind ∧ kind ≤ 3) {l : List CellD} (hl : l.length ≤ 4096) (h : ∀ c ∈ l,goodC kind c) : cellsE kind l = 0:=by
 unfold cellsE
 by_cases p1 : kind = 1
 ·rw [if_pos p1]
 rw [if_neg p1]
 by_cases p2 : kind = 2
 ·rw [if_pos p2]
  refine Pk.putE_of (W:=1) (by simp [valsT]; omega) (by omega) ((Pk.width_le _ _).2 fun x hx=>?_)
  obtain ⟨c,hc,rfl⟩:=List.mem_map.1 hx
  have:=good_bool (p2 ▸ h c hc)
  unfold toU
  omega
 rw [if_neg p2]
 unfold checkT
 rw [if_pos]
 rw [mayT_spec]
 refine ⟨by simp [valsW]; omega,fun x hx=>?_⟩
 obtain ⟨c,hc,rfl⟩:=List.mem_map.1 hx
 exact cellE_size (h c hc).2
theorem putI_le {l : List Int} (hl : l.length ≤ 4096) : (putI l).length ≤ 11 + 8 * l.length:=by
 have h1 : (plainB l).length ≤ 11 + 8 * l.length:=by
  unfold plainB headB
  have:=pvarN_le10 (n:=l.length) (by omega)
  simp only [List.length_append,List.length_cons,flat8_len]
  omega
 unfold putI
 simp only
 split <;> split <;> omega
theorem cellsB_len {kind : Int} (hk : 1 ≤ kind ∧ kind ≤ 3) {l : List CellD} (hl : l.length ≤ 4096) : (cellsB kind l).length ≤ 2 ^ 31:=by
 unfold cellsB
 split
 ·have e : (valsN l).length = l.length:=List.length_map ..
  have:=putI_le (l:=valsN l) (by omega)
  omega
 ·split
  ·unfold Pk.putL
   split
   ·have:=(putN_spec (1 : Int).toNat (valsT l)).2.1
    have e : (valsT l).length = l.length:=List.length_map ..
    rw [this,e]
    have : (1 : Int).toNat = 1:=rfl
    rw [this]
    omega
   ·simp
  ·unfold putT
   split
   ·rename_i h
    have:=plainT_le h
    split <;> omega
   ·simp
theorem mn_mem {l : List CellD} (hl : l.length ≤ 4096) (hv : ∀ c ∈ l,c.k ≠ 0) (h : l ≠ []) : (ofZ l).mn ∈ l ∧ (ofZ l).mx ∈ l:=by
 have e : vals l = l:=by unfold vals; rw [List.filter_eq_self]; intro c hc; simpa using hv c hc
 rw [ofZ_rep l (by omega),e]
 exact ⟨(mnL_spec h).1,(mxL_spec h).1⟩
/-! ### The walk -/
section
variable {n0 : Nat} {h0 h : AH} {L : List (Nat × AO)} {O : List OS}
theorem segcells_c {k : Nat} {h : AH} {v : Value} {kind : Int} (hk : 1 ≤ kind ∧ kind ≤ 3) {l : List CellD} (A : Cells h v l) (hl : l.length ≤ 4096) (hk2 : 4096 < k) :
  Tl (eInv env (k + 602) (.method "shadowbook/segment.cells") #[] #[codV kind, v] h) fun r => ∃ o, r.1 = .tuple #[o, .int .i64 (cellsE kind l)] ∧ Stt prog h.n h r.2 [] [(o, 1, u8rows (cellsB kind l))] := by
 have h : kind = 1 ∨ kind = 2 ∨ kind = 3:=by omega
 rcases h with rfl | rfl | rfl
 ·exact cellsN_c A hl hk2
 ·exact cellsT_c A hl hk2
 ·exact cellsW_c A hl hk2
theorem segzone_c {k : Nat} {v : Value} {l : List Nat} {kind : Int} (hk : 1 ≤ kind ∧ kind ≤ 3) (z : ZoneD) (hc : z.mn.s.size ≤ 2 ^ 20) (hd : z.mx.s.size ≤ 2 ^ 20) (hl : l.length ≤ 2 ^ 26) (S : Stt prog n0 h0 h L ((v,1,u8rows l) :: O)) :
  Tl (eInv env (k + 31) (.method "shadowbook/segment.zone") #[] #[codV kind, v, zv z] h) fun r => Stt prog n0 h0 r.2 L ((r.1, 1, u8rows (l ++ (oneB kind z.mn ++ oneB kind z.mx))) :: O) := by
 have h : kind = 1 ∨ kind = 2 ∨ kind = 3:=by omega
 rcases h with rfl | rfl | rfl
 ·exact zoneN_c z hl S
 ·exact zoneT_c z hl S
 ·exact zoneW_c z hc hd hl S
/-- One's own slices in another order. -/
theorem permO {P : Program} {n0 : Nat} {h0 h : AH} {L : List (Nat × AO)} {O O' : List OS} (S : Stt P n0 h0 h L O) (hs : O.Perm O') : Stt P n0 h0 h L O':=by
 have hp : O.Pairwise fun x y=>∀ b,blkOf x.1 = some b→¬ blkOf y.1 = some b:=by
  rw [List.pairwise_iff_getElem]
  intro i j hi hj hij b h1 h2
  have:=S.apart i j _ _ b (List.getElem?_eq_getElem hi) (List.getElem?_eq_getElem hj) h1 h2
  omega
 have hp2:=List.pairwise_iff_getElem.1 ((hs.pairwise_iff (fun {x y} h b h1 h2=>h b h2 h1)).1 hp)
 refine ⟨S.sta,fun o ho=>S.own o (hs.mem_iff.2 ho),fun i j x y b hi hj h1 h2=>?_⟩
 obtain ⟨l1,rfl⟩:=List.getElem?_eq_some_iff.1 hi
 obtain ⟨l2,rfl⟩:=List.getElem?_eq_some_iff.1 hj
 rcases Nat.lt_trichotomy i j with q | q | q
 ·exact (hp2 i j l1 l2 q b h1 h2).elim
 ·exact q
 ·exact (hp2 j i l2 l1 q b h2 h1).elim
def mkZ (kind : Int) : Value := .func (.method "shadowbook/segment.zone") #[codV kind] #[]
theorem mkz1 : pMakeFunc (.method "shadowbook/segment.zone") #[codV 1] #[] = some (mkZ 1) := by kernel_rfl
theorem mkz2 : pMakeFunc (.method "shadowbook/segment.zone") #[codV 2] #[] = some (mkZ 2) := by kernel_rfl
theorem mkz3 : pMakeFunc (.method "shadowbook/segment.zone") #[codV 3] #[] = some (mkZ 3) := by kernel_rfl
theorem ncz1 : pNilCheck prog (mkZ 1) = some (mkZ 1):=by kernel_rfl
theorem ncz2 : pNilCheck prog (mkZ 2) = some (mkZ 2):=by kernel_rfl
theorem ncz3 : pNilCheck prog (mkZ 3) = some (mkZ 3):=by kernel_rfl
theorem mkz {kind : Int} (hk : 1 ≤ kind ∧ kind ≤ 3) : pMakeFunc (.method "shadowbook/segment.zone") #[codV kind] #[] = some (mkZ kind) ∧ pNilCheck prog (mkZ kind) = some (mkZ kind) := by
 have h : kind = 1 ∨ kind = 2 ∨ kind = 3:=by omega
 rcases h with rfl | rfl | rfl
 ·exact ⟨mkz1,ncz1⟩
 ·exact ⟨mkz2,ncz2⟩
 ·exact ⟨mkz3,ncz3⟩
end
theorem f45c {k : Nat} {h : AH} {v : Value} {l : List CellD} (kind : Int) (A : Cells h v l) (hl : l.length ≤ 9223372036854775807) (hk : 4200 < k) :
  Tl (eInv env (k + 701) (.func 45) #[] #[.int .i64 kind,v] h) fun r=>r.1 = .tuple #[.string (strB (if segE kind l = 0 then segB kind l else [])),.int .i64 (segE kind l)] ∧ Grow h r.2:=by
 rw [F45_call]
 unfold F45
 have hv : ∀ h' : AH,pLen prog #[34] v h' = some (.int .i64 l.length):=fun h'=>A.len
 with_reducible refine Tl.call' (Stt.init (P:=prog) h) (f68c (k:=k + 697) kind A hl (by omega)) fun h1 S1 _=>?_
 by_cases e0 : ¬ segE kind l = 0
 ·rw [if_neg e0]
  with_reducible repeat (first | (apply qzV; simp (disch:=omega) only [zA,bzS6.1] <;> rfl) | apply qzT | apply qzF | (apply qzB; simp (disch:=omega) only [zA,bzS6.1] <;> rfl))
  exact ⟨_,rfl,rfl,S1.grow⟩
 have e0 : segE kind l = 0:=Classical.not_not.1 e0
 rw [if_pos e0]
 obtain ⟨hkd,hl4,hall⟩:=segE_zero.1 e0
 rw [e0]
 with_reducible repeat (first | (apply qzV; simp (disch:=omega) only [zA,bzS6.1,hv] <;> rfl) | apply qzT | apply qzF | (apply qzB; simp (disch:=omega) only [zA,bzS6.1,hv] <;> rfl))
 refine Tl.make' (S1.nil 3) app92 ze4 (by omega) (by omega) fun nv h2 S2 g2=>?_
 have S2 : Stt prog h.n h h2 [] [(nv,1,brows (flx l 0)),(.slice none 0 0,3,crows (vals (l.take 0)))]:=by
  have e : brows (flx l 0) = List.replicate l.length [.bool false]:=by simp [flx,flg,brows,bv]
  rw [e]
  exact S2
 with_reducible repeat (first | (apply qzV; simp (disch:=omega) only [zA,bzS6.1,hv] <;> rfl) | apply qzT | apply qzF | (apply qzB; simp (disch:=omega) only [zA,bzS6.1,hv] <;> rfl))
 refine f45_loop (i:=0) A hl4 l.length (by omega) (by omega) S2 fun h3 nv sv y1 y2 S3=>?_
 have hfl : (flg l).length = l.length:=List.length_map ..
 have hvl:=vals_le l
 refine Tl.bind (f69c (k:=k + 200) (S3.sl1 (f:=bv) 0 rfl) (by omega) (by omega)) ?_
 rintro ⟨r,h4⟩ ⟨ov,er,g4,X⟩
 simp only at er g4 X
 subst er
 have S4:=S3.gain g4 X
 have ek : IntKind.u8.wrap kind = ((kind.toNat : Nat) : Int):=by rw [wrap_u8]; omega
 have hpl:=putV_len (l:=flg l) (by omega)
 with_reducible repeat (first | (apply qzV; simp (disch:=omega) only [zA,bzS6.1,ek,bs93] <;> rfl) | apply qzT | apply qzF | (apply qzB; simp (disch:=omega) only [zA,bzS6.1,ek,bs93] <;> rfl))
 have S5:=Stt.absorb (n:=1) (rows:=[[.int .u8 ((kind.toNat : Nat) : Int)]]) (S4.alloc (.cells [.int .u8 ((kind.toNat : Nat) : Int)] 5 true)) (by simp) sz5
 refine Tl.append' S5 0 rfl app93 (S5.slV 1 rfl) (one_u8rows _) (by rw [u8rows_len]; simp; omega) fun xv h6 S6=>?_
 have S6 : Stt prog h.n h h6 [] [(xv,1,u8rows ([kind.toNat] ++ putV (flg l))),(ov,1,u8rows (putV (flg l))),(nv,1,brows (flg l)),(sv,3,crows (vals l))]:=by
  have e : [[Value.int .u8 ((kind.toNat : Nat) : Int)]] ++ u8rows (putV (flg l)) = u8rows ([kind.toNat] ++ putV (flg l)):=by simp [u8rows,u8v]
  rw [← e]; exact S6
 have A6 : Cells h6 sv (vals l):=(S6.slV 3 rfl).z
 have hv6 : ∀ h' : AH,pLen prog #[34] sv h' = some (.int .i64 (vals l).length):=fun h'=>A6.len
 by_cases q : vals l = []
 ·have eb : segB kind l = [kind.toNat] ++ putV (flg l):=by unfold segB tailB; rw [if_pos q]; simp
  have cb:=convB (S6.sl1 (f:=u8v) (l:=[kind.toNat] ++ putV (flg l)) 0 rfl)
  rw [q] at hv6
  with_reducible repeat (first | (apply qzV; simp (disch:=omega) only [zA,bzS6.1,hv6,cb,List.length_nil] <;> rfl) | apply qzT | apply qzF | (apply qzB; simp (disch:=omega) only [zA,bzS6.1,hv6,cb,List.length_nil] <;> rfl))
  exact ⟨_,rfl,by rw [eb],S6.grow⟩
 have qn : (vals l).length ≠ 0:=fun z=>q (List.length_eq_zero_iff.1 z)
 with_reducible repeat (first | (apply qzV; simp (disch:=omega) only [zA,bzS6.1,hv6] <;> rfl) | apply qzT | apply qzF | (apply qzB; simp (disch:=omega) only [zA,bzS6.1,hv6] <;> rfl))
 with_reducible refine Tl.call' S6 (f70c (k:=k + 698) kind h6) fun h7 S7 g7=>?_
 have hgood:=good_vals hall
 refine Tl.bind (segcells_c (k:=k + 98) hkd (A6.grow g7) (by omega) (by omega)) ?_
 rintro ⟨r,h8⟩ ⟨cv,er,X8⟩
 simp only at er X8
 subst er
 have S8:=S7.join X8
 have g8:=X8.grow
 have ec : cellsE kind (vals l) = 0:=cellsE_zero hkd (by omega) hgood
 rw [ec]
 with_reducible repeat (first | (apply qzV; simp (disch:=omega) only [zA,bzS6.1] <;> rfl) | apply qzT | apply qzF | (apply qzB; simp (disch:=omega) only [zA,bzS6.1] <;> rfl))
 with_reducible refine Tl.call' S8 (f71c (k:=k + 687) (Cells.grow (A6.grow g7) g8) (by omega) (by omega)) fun h9 S9 g9=>?_
 obtain ⟨mf,nc⟩:=mkz hkd
 with_reducible repeat (first | (apply qzV; simp (disch:=omega) only [zA,bzS6.1,mf,nc] <;> rfl) | apply qzT | apply qzF | (apply qzB; simp (disch:=omega) only [zA,bzS6.1,mf,nc] <;> rfl))
 have hk0 : ∀ c ∈ vals l,c.k ≠ 0:=fun c hc=>by
  have : c ∈ l ∧ c.k ≠ 0:=by simpa [vals] using hc
  exact this.2
 obtain ⟨m1,m2⟩:=mn_mem (l:=vals l) (by omega) hk0 q
 have s1:=cellE_size (hgood _ m1).2
 have s2:=cellE_size (hgood _ m2).2
 refine Tl.bind (segzone_c (k:=k + 669) hkd (ofZ (vals l)) (by omega) (by omega) (by simp; omega) (permO S9 (.swap ..))) ?_
 rintro ⟨zvv,h10⟩ S10
 have hcl:=cellsB_len hkd (l:=vals l) (by omega)
 have hone : ∀ c : CellD,c.s.size ≤ 65536→(oneB kind c).length ≤ 2 ^ 21:=fun c hc=>by
  unfold oneB
  split
  ·exact lenN c
  ·split
   ·exact lenT c
   ·exact lenW c (by omega)
 have o1:=hone _ s1
 have o2:=hone _ s2
 refine Tl.append' S10 0 rfl app93 (S10.slV 1 rfl) (one_u8rows _) (by rw [u8rows_len,u8rows_len]; simp only [List.length_append,List.length_cons,List.length_nil]; omega) fun wv h11 S11=>?_
 have eb : u8rows ([kind.toNat] ++ putV (flg l) ++ (oneB kind (ofZ (vals l)).mn ++ oneB kind (ofZ (vals l)).mx)) ++ u8rows (cellsB kind (vals l)) = u8rows (segB kind l):=by
  unfold segB tailB
  rw [if_neg q]
  simp [u8rows]
 rw [eb] at S11
 have cb:=convB (S11.sl1 (f:=u8v) (l:=segB kind l) 0 rfl)
 with_reducible repeat (first | (apply qzV; simp (disch:=omega) only [zA,bzS6.1,cb] <;> rfl) | apply qzT | apply qzF | (apply qzB; simp (disch:=omega) only [zA,bzS6.1,cb] <;> rfl))
 exact ⟨_,rfl,rfl,S11.grow⟩
end Go.Proofs.YtlbmlncdjkdoaaaGreat.Sh
/- The document's answer for packs: bits, Width, Size, Put, Get. -/
set_option linter.unusedVariables false
set_option linter.unusedSimpArgs false
set_option maxRecDepth 100000
namespace Go.Proofs.YtlbmlncdjkdoaaaGreat.Sh.Pk
open Go Go.RowKit Go.Proofs.Ev Go.Proofs.YtlbmlncdjkdoaaaGreat.Sh
open Tryz (prog)
/-- The state within 'Put': the bytes so far. -/
structure RP (h0 h : AH) (out : Value) (b S : Nat) (bs : List Nat) : Prop where
 sta : Sta h0.n h0 h []
 row : SlX prog h out 1 b ((ints bs).map brow)
 hb : h0.n ≤ b
 len : bs.length = S
 small : ∀ x ∈ bs,x < 256
/-- A bit of the bytes, as the code reads it. -/
structure BitAt (h : AH) (v : Value) (bs : List Nat) (p : Nat) : Prop where
 wq : IntKind.i64.wrap (((p : Nat) : Int).tdiv 8) = ((p / 8 : Nat) : Int)
 wr : ((p : Nat) : Int).tmod 8 = ((p % 8 : Nat) : Int)
 wc : IntKind.u64.wrap ((p % 8 : Nat) : Int) = ((p % 8 : Nat) : Int)
 at_ : ∃ (b o x : Nat),pIndexAddr prog 93 v (.int .i64 ((p / 8 : Nat) : Int)) = some (.pointer (some ⟨b,o,none⟩)) ∧ h.cell b o = some (.int .u8 (x : Int)) ∧ (∀ (y z : Operand),pBin prog .shr 5 y z (.int .u8 (x : Int)) (.int .u64 ((p % 8 : Nat) : Int)) = some (.int .u8 ((x / 2 ^ (p % 8) : Nat) : Int))) ∧
  ((x / 2 ^ (p % 8) : Nat) : Int).tmod 2 = ((byN bs / 2 ^ p % 2 : Nat) : Int)
end Go.Proofs.YtlbmlncdjkdoaaaGreat.Sh.Pk
/- The document's answer for the octet's package. -/
set_option linter.unusedVariables false
set_option linter.unusedSimpArgs false
set_option maxRecDepth 100000
namespace Go.Proofs.YtlbmlncdjkdoaaaGreat.Sh
open Go Go.RowKit Go.Proofs.Ev
/-! ### Put, of any length and of eight bytes -/
section
variable {n0 : Nat} {h0 h : AH} {L : List (Nat × AO)} {O : List OS} {i br : Nat} {rv : Value} {rest : List Nat}
end
end Go.Proofs.YtlbmlncdjkdoaaaGreat.Sh
/- The document's answer for flags: 'Count', 'Put'. -/
set_option linter.unusedVariables false
set_option linter.unusedSimpArgs false
set_option maxRecDepth 100000
namespace Go.Proofs.YtlbmlncdjkdoaaaGreat.Sh
open Go Go.RowKit Go.Proofs.Ev
end Go.Proofs.YtlbmlncdjkdoaaaGreat.Sh
/- A place that is picked: 'Pick'. -/
set_option linter.unusedVariables false
set_option linter.unusedSimpArgs false
set_option maxRecDepth 100000
namespace Go.Proofs.YtlbmlncdjkdoaaaGreat.Sh
open Go Go.RowKit Go.Proofs.Ev
open Tryz (prog)
theorem f15c {k : Nat} (z : Int) (hz : -9223372036854775808 ≤ z ∧ z ≤ 9223372036854775807) {n : Nat} (h0 : 1 ≤ n) (h1 : n ≤ 9223372036854775807) (h : AH) : ∃ c : Nat,c < n ∧ eInv env (k + 1) (.func 15) #[] #[.int .i64 z,.int .i64 n] h = some (.int .i64 c,h):=by
 have hr : ∀ t x y,pBin prog .rem t x y (.int .i64 z) (.int .i64 n) = some (.int .i64 (z.tmod n)):=fun t x y=>bin_rem (by omega)
 have b1 : z.tmod n < n:=Int.tmod_lt_of_pos z (by omega)
 have b2 : -(n : Int) < z.tmod n:=by
  have:=Int.neg_tmod z n
  have h2:=Int.tmod_lt_of_pos (-z) (show (0 : Int) < n by omega)
  rw [this] at h2
  omega
 rw [F15_call]
 by_cases q : z.tmod n < 0
 ·refine ⟨(z.tmod n + n).toNat,by omega,?_⟩
  have e : ((z.tmod n + n).toNat : Int) = z.tmod n + n:=by omega
  have T : Tl (F15 (eInv env k) k (.int .i64 z) (.int .i64 n) h) fun r=>r = (.int .i64 ((z.tmod n + n).toNat : Nat),h):=by
   unfold F15
   with_reducible repeat (first | (apply qzV; simp (disch:=omega) only [zA,hr,ld3] <;> rfl) | apply qzT | apply qzF | (apply qzB; simp (disch:=omega) only [zA,hr,ld3] <;> rfl))
   simp only [F15_rlrrr]
   with_reducible repeat (first | (apply qzV; simp (disch:=omega) only [zA] <;> rfl) | apply qzT | apply qzF | (apply qzB; simp (disch:=omega) only [zA] <;> rfl))
   exact ⟨_,rfl,by rw [e]⟩
  obtain ⟨r,h1,h2⟩:=T
  rw [h1,h2]
 ·refine ⟨(z.tmod n).toNat,by omega,?_⟩
  have e : ((z.tmod n).toNat : Int) = z.tmod n:=by omega
  have T : Tl (F15 (eInv env k) k (.int .i64 z) (.int .i64 n) h) fun r=>r = (.int .i64 ((z.tmod n).toNat : Nat),h):=by
   unfold F15
   with_reducible repeat (first | (apply qzV; simp (disch:=omega) only [zA,hr,ld3] <;> rfl) | apply qzT | apply qzF | (apply qzB; simp (disch:=omega) only [zA,hr,ld3] <;> rfl))
   simp only [F15_rlrrr]
   with_reducible repeat (first | (apply qzV; simp (disch:=omega) only [zA] <;> rfl) | apply qzT | apply qzF | (apply qzB; simp (disch:=omega) only [zA] <;> rfl))
   exact ⟨_,rfl,by rw [e]⟩
  obtain ⟨r,h1,h2⟩:=T
  rw [h1,h2]
end Go.Proofs.YtlbmlncdjkdoaaaGreat.Sh
/- 'SegmentNulls': what is put, without the program; texts cut. -/
set_option linter.unusedVariables false
set_option linter.unusedSimpArgs false
set_option maxRecDepth 100000
namespace Go.Proofs.YtlbmlncdjkdoaaaGreat.Sh
open Go Go.RowKit Go.Proofs.Ev Go.Lib
/-! ### Texts cut -/
/-! ### Columns of nulls -/
/-! ### Nulls between cells -/
def more (V : List CellD) : List CellD:=V.flatMap fun c=>[c,c0]
def wd (n : Nat) : List Bool:=(List.replicate n [false,true]).flatten
theorem vals_self {V : List CellD} (h : ∀ c ∈ V,c.k ≠ 0) : vals V = V:=by
 unfold vals
 rw [List.filter_eq_self]
 intro c hc
 simpa using h c hc
theorem vals_ne {l : List CellD} : ∀ c ∈ vals l,c.k ≠ 0:=fun c hc=>by
 have : c ∈ l ∧ c.k ≠ 0:=by simpa [vals] using hc
 exact this.2
end Go.Proofs.YtlbmlncdjkdoaaaGreat.Sh
/- 'slices.Repeat' of one number. -/
set_option linter.unusedVariables false
set_option linter.unusedSimpArgs false
set_option maxRecDepth 100000
namespace Go.Proofs.YtlbmlncdjkdoaaaGreat.Sh
open Go Go.RowKit Go.Proofs.Ev
/-! ### 'slices.Repeat' of one number -/
end Go.Proofs.YtlbmlncdjkdoaaaGreat.Sh
/- What 'Get' of the nulls' package comes to: what it calls. -/
set_option linter.unusedVariables false
set_option linter.unusedSimpArgs false
set_option maxRecDepth 100000
namespace Go.Proofs.YtlbmlncdjkdoaaaGreat.Sh
open Go Go.RowKit Go.Proofs.Ev
end Go.Proofs.YtlbmlncdjkdoaaaGreat.Sh
/- What 'Get' of the nulls' package comes to. -/
set_option linter.unusedVariables false
set_option linter.unusedSimpArgs false
set_option maxRecDepth 100000
namespace Go.Proofs.YtlbmlncdjkdoaaaGreat.Sh
open Go Go.RowKit Go.Proofs.Ev
end Go.Proofs.YtlbmlncdjkdoaaaGreat.Sh
/- What 'Get' of the nulls' package comes to: the whole. -/
set_option linter.unusedVariables false
set_option linter.unusedSimpArgs false
set_option maxRecDepth 100000
namespace Go.Proofs.YtlbmlncdjkdoaaaGreat.Sh
open Go Go.RowKit Go.Proofs.Ev
def szV (n : Nat) : Nat:=Pk.sizeN n 1
/-- Flags of a form, and what is left. -/
def mid (n form : Nat) (r2 : List Nat) : Option (List Bool × List Nat) :=
 if form = 2 then (if r2.length < szV n then none else if Pk.checkE (r2.take (szV n)) (n : Int) 1 ≠ 0 then none else some ((Pk.getN (r2.take (szV n)) (n : Int) 1).map (· == 1),r2.drop (szV n)))
 else some (List.replicate n (form == 1),r2)
def getV (b : List Nat) : Option (List Bool × Nat):=match dec 0 0 b with
 | none=>none
 | some (n,r1)=>if n > 4096 then none else match r1 with
  | []=>none
  | form :: r2=>if form > 2 then none else match mid n form r2 with
   | none=>none
   | some (l,rest)=>if putV l = b.take (b.length - rest.length) then some (l,b.length - rest.length) else none
end Go.Proofs.YtlbmlncdjkdoaaaGreat.Sh
/- What 'zone.Check' comes to, where there are values; what is right of a zone of good cells. -/
set_option linter.unusedVariables false
set_option linter.unusedSimpArgs false
set_option maxRecDepth 100000
namespace Go.Proofs.YtlbmlncdjkdoaaaGreat.Sh
open Go Go.RowKit Go.Proofs.Ev Go.Lib
def zoneE (z : ZoneD) (kind : Int) : Int:=if z.mn.k = kind ∧ z.mx.k = kind ∧ cellE z.mn = 0 ∧ cellE z.mx = 0 ∧ z.mn.cmp z.mx ≤ 0 then 0 else 2
theorem zoneE_zero {z : ZoneD} {kind : Int} : zoneE z kind = 0 ↔ z.mn.k = kind ∧ z.mx.k = kind ∧ cellE z.mn = 0 ∧ cellE z.mx = 0 ∧ z.mn.cmp z.mx ≤ 0:=by
 unfold zoneE
 split
 ·simp [*]
 ·rename_i h
  constructor
  ·intro q; cases q
  ·intro q; exact absurd q h
end Go.Proofs.YtlbmlncdjkdoaaaGreat.Sh
/- What stands ahead of a segment's cells: 'open'. -/
set_option linter.unusedVariables false
set_option linter.unusedSimpArgs false
set_option maxRecDepth 100000
namespace Go.Proofs.YtlbmlncdjkdoaaaGreat.Sh
open Go Go.RowKit Go.Proofs.Ev Go.Lib
/-! ### What is read, without the program -/
def endB (kind : Int) (r : List Nat) : Option (CellD × CellD × List Nat):=if kind = 1 then endN r else if kind = 2 then endT r else endW r
def openB : List Nat→Option (Int × List Bool × ZoneD × List Nat)
 | []=>none
 | kb :: r=>if ¬ (1 ≤ (kb : Int) ∧ (kb : Int) ≤ 3) then none else match getV r with
  | none=>none
  | some (l,n)=>if l.length = cnt l then some ((kb : Int),l,⟨l.length,cnt l,c0,c0⟩,r.drop n) else match endB (kb : Int) (r.drop n) with
   | none=>none
   | some (a,b,r2)=>if zoneE ⟨l.length,cnt l,a,b⟩ (kb : Int) = 0 then some ((kb : Int),l,⟨l.length,cnt l,a,b⟩,r2) else none
/-! ### The walk -/
def opL (kind : Int) (nv : Value) (z : ZoneD) (rv : Value) : List Value:=.int .i64 kind :: nv :: (zl z ++ [rv])
def Op (b : Nat) (kind : Int) (nv : Value) (z : ZoneD) (rv : Value) : Nat × AO:=(b,.cells (opL kind nv z rv) 104 true)
section
variable {n0 : Nat} {h0 h : AH} {L : List (Nat × AO)} {O : List OS}
structure Oat (h : AH) (b : Nat) (kind : Int) (nv : Value) (z : ZoneD) (rv : Value) : Prop where
 all : h.row b 0 11 = some (opL kind nv z rv)
 kind : h.cell b 0 = some (.int .i64 kind)
 zone : h.row b 2 8 = some (zl z)
 cnt : h.cell b 2 = some (.int .i64 z.cnt)
 nul : h.cell b 3 = some (.int .i64 z.nul)
end
end Go.Proofs.YtlbmlncdjkdoaaaGreat.Sh
/- What stands ahead of a segment's cells: 'open', the whole. -/
set_option linter.unusedVariables false
set_option linter.unusedSimpArgs false
set_option maxRecDepth 100000
namespace Go.Proofs.YtlbmlncdjkdoaaaGreat.Sh
open Go Go.RowKit Go.Proofs.Ev Go.Lib
section
variable {n0 : Nat} {h0 h : AH} {L : List (Nat × AO)} {O : List OS}
end
end Go.Proofs.YtlbmlncdjkdoaaaGreat.Sh
/- Flags that are put are got. No program's step in sight. -/
set_option linter.unusedVariables false
set_option linter.unusedSimpArgs false
set_option maxRecDepth 100000
namespace Go.Proofs.YtlbmlncdjkdoaaaGreat.Sh
open Go Go.RowKit Go.Proofs.Ev
theorem cnt_zero {l : List Bool} (h : cnt l = 0) : l = List.replicate l.length false:=by
 refine List.eq_replicate_iff.2 ⟨rfl,fun b hb=>?_⟩
 have:=List.count_eq_zero.1 h
 cases b
 ·rfl
 ·exact absurd hb this
theorem cnt_all {l : List Bool} (h : cnt l = l.length) : l = List.replicate l.length true:=by
 refine List.eq_replicate_iff.2 ⟨rfl,fun b hb=>?_⟩
 exact (List.count_eq_length.1 h b hb).symm
theorem mid_put (l : List Bool) (b : List Nat) (hl : l.length ≤ 4096) : mid l.length (formN l) ((if formN l = 2 then putN 1 (l.map b2n) else []) ++ b) = some (l,b):=by
 unfold mid
 by_cases q : formN l = 2
 ·simp only [if_pos q]
  have hs : szV l.length = (putN 1 (l.map b2n)).length:=by
   have:=(putN_spec 1 (l.map b2n)).2.1
   rw [List.length_map] at this
   unfold szV Pk.sizeN
   omega
  obtain ⟨t1,t2⟩:=Pk.there (l:=l.map b2n) (W:=1) (by simp; omega) (by omega) (b2n_width l)
  rw [List.length_map] at t1 t2
  have e1 : ((1 : Nat) : Int) = 1:=rfl
  rw [e1] at t1 t2
  rw [if_neg (by simp; omega),hs,List.take_left' rfl,if_neg (fun h=>h t1),t2,List.drop_left' rfl,List.map_map]
  congr 2
  conv=>rhs; rw [← List.map_id l]
  refine List.map_congr_left fun x _=>?_
  cases x <;> rfl
 ·simp only [if_neg q,List.nil_append]
  unfold formN at q ⊢
  by_cases c0 : cnt l = 0
  ·rw [if_pos c0]
   congr 2
   exact (cnt_zero c0).symm
  ·rw [if_neg c0] at q ⊢
   by_cases c1 : cnt l = l.length
   ·rw [if_pos c1]
    congr 2
    exact (cnt_all c1).symm
   ·rw [if_neg c1] at q
    exact absurd rfl q
theorem get_put (l : List Bool) (b : List Nat) (hl : l.length ≤ 4096) : getV (putV l ++ b) = some (l,(putV l).length):=by
 have hd : dec 0 0 (putV l ++ b) = some (l.length,formN l :: ((if formN l = 2 then putN 1 (l.map b2n) else []) ++ b)):=by
  have:=dec_pvar ((formN l :: (if formN l = 2 then putN 1 (l.map b2n) else [])) ++ b) l.length (i:=0) (acc:=0) (.inl rfl) (by simp; omega)
  unfold putV
  rw [List.append_assoc,this]
  simp
 unfold getV
 rw [hd]
 simp only
 have hf:=formN_le l
 rw [if_neg (by omega),if_neg (by omega),mid_put l b hl]
 simp only [List.length_append]
 have e : (putV l).length + b.length - b.length = (putV l).length:=by omega
 rw [e,List.take_left' rfl,if_pos rfl]
end Go.Proofs.YtlbmlncdjkdoaaaGreat.Sh
/- Segments that are put are read: zones. What 'Zone' comes to. -/
set_option linter.unusedVariables false
set_option linter.unusedSimpArgs false
set_option maxRecDepth 100000
namespace Go.Proofs.YtlbmlncdjkdoaaaGreat.Sh
open Go Go.RowKit Go.Proofs.Ev Go.Lib
def i64in (z : Int) : Prop:=-9223372036854775808 ≤ z ∧ z ≤ 9223372036854775807
/-! ### A value that is put is read -/
theorem rdN_put {c : CellD} (hi : i64in c.i) (r : List Nat) : rdN (oneN c ++ r) = some (c.i,r):=by
 unfold rdN oneN
 have hl:=le_len (toU c.i) 8 0
 rw [if_neg (by rw [List.length_append,hl]; omega),List.take_left' hl,List.drop_left' hl,ofB_le]
 have h256 : (256 : Nat) ^ 8 = 18446744073709551616:=by decide
 have hlt:=toU_lt c.i
 simp only [Nat.mul_zero,Nat.pow_zero,Nat.div_one,h256,Nat.mod_eq_of_lt hlt]
 unfold i64in at hi
 rw [wrap_i64']
 unfold toU
 congr 2
 split <;> omega
theorem rdT_put {c : CellD} (r : List Nat) : rdT (oneT c ++ r) = some (toU c.i % 256,r):=by
 unfold rdT oneT
 rw [if_neg (by simp)]
 simp [ofB]
theorem rdW_put {c : CellD} (hs : c.s.size ≤ 65536) (r : List Nat) : rdW (oneW c ++ r) = some (c.s,r):=by
 unfold rdW oneW
 rw [List.append_assoc,dec_pvar _ c.s.size (i:=0) (acc:=0) (.inl rfl) (by simp; omega)]
 simp only [Nat.zero_add,Nat.mul_zero,Nat.pow_zero,Nat.mul_one]
 rw [if_neg (by omega),if_neg (by rw [List.length_append,bytesN_len]; omega),List.take_left' (bytesN_len _),List.drop_left' (bytesN_len _)]
 have e : strB (bytesN c.s) = c.s:=by
  unfold strB bytesN
  rw [List.map_map]
  have e : (UInt8.ofNat ∘ UInt8.toNat) = id:=funext fun x=>by simp
  rw [e,List.map_id]
 rw [e]
theorem mkN_good {c : CellD} (h : goodC 1 c) : mkN c.i = c:=by
 have hb:=cellE_bare h.2
 unfold bare at hb
 rw [if_neg (by rw [h.1]; decide),if_pos h.1,h.1] at hb
 exact hb
theorem mkT_good {c : CellD} (h : goodC 2 c) : mkT (toU c.i % 256) = c:=by
 have h01:=good_bool h
 have hb:=cellE_bare h.2
 unfold bare at hb
 rw [if_neg (by rw [h.1]; decide),if_neg (by rw [h.1]; decide),if_pos h.1,h.1] at hb
 have hs : (.empty : ByteArray) = c.s:=congrArg CellD.s hb
 unfold mkT
 have e : IntKind.i64.wrap ((toU c.i % 256 : Nat) : Int) = c.i:=by rcases h01 with e | e <;> rw [e] <;> decide
 rw [e]
 have hbs : c.bytes = ByteArray.empty.data.toList:=by unfold CellD.bytes; rw [← hs]
 exact CellD.ext' h.1.symm rfl hbs.symm
theorem mkW_good {c : CellD} (h : goodC 3 c) : mkW c.s = c:=by
 have hb:=cellE_bare h.2
 unfold bare at hb
 rw [if_neg (by rw [h.1]; decide),if_neg (by rw [h.1]; decide),if_neg (by rw [h.1]; decide),h.1] at hb
 exact hb
theorem endB_put {kind : Int} (hk : 1 ≤ kind ∧ kind ≤ 3) {a b : CellD} (ha : goodC kind a) (hb : goodC kind b) (ia : i64in a.i) (ib : i64in b.i) (r : List Nat) : endB kind (oneB kind a ++ oneB kind b ++ r) = some (a,b,r):=by
 have h : kind = 1 ∨ kind = 2 ∨ kind = 3:=by omega
 rw [List.append_assoc]
 rcases h with rfl | rfl | rfl
 ·show endG rdN mkN (oneN a ++ (oneN b ++ r)) = _
  unfold endG
  simp only [rdN_put ia,rdN_put ib,mkN_good ha,mkN_good hb]
 ·show endG rdT mkT (oneT a ++ (oneT b ++ r)) = _
  unfold endG
  simp only [rdT_put,mkT_good ha,mkT_good hb]
 ·show endG rdW mkW (oneW a ++ (oneW b ++ r)) = _
  unfold endG
  simp only [rdW_put (cellE_size ha.2),rdW_put (cellE_size hb.2),mkW_good ha,mkW_good hb]
theorem cnt_flg (l : List CellD) : cnt (flg l) + (vals l).length = l.length:=by
 unfold cnt flg vals
 induction l with
 | nil=>rfl
 | cons c l ih =>
  rw [List.map_cons,List.count_cons,List.filter_cons,List.length_cons]
  by_cases q : c.k = 0
  ·simp [q]; omega
  ·simp [q]; omega
def restB (kind : Int) (l : List CellD) : List Nat:=if l = [] then [] else cellsB kind l
theorem open_put {kind : Int} {l : List CellD} (h : segE kind l = 0) (hi : ∀ c ∈ l,i64in c.i) (b : List Nat) : openB (segB kind l ++ b) = some (kind,flg l,ofZ l,restB kind (vals l) ++ b):=by
 obtain ⟨hk,hl,hall⟩:=segE_zero.1 h
 have hg:=good_vals hall
 have hkn : ((kind.toNat : Nat) : Int) = kind:=by omega
 have hfl : (flg l).length = l.length:=List.length_map ..
 have hc:=cnt_flg l
 have e : segB kind l ++ b = kind.toNat :: (putV (flg l) ++ (tailB kind (vals l) ++ b)):=by unfold segB; simp
 rw [e,openB,hkn,if_neg (fun q=>q hk),get_put _ _ (by omega)]
 simp only [List.drop_left]
 have ez:=ofZ_rep l (by omega)
 by_cases q : vals l = []
 ·have hz : ofZ l = ⟨(flg l).length,cnt (flg l),c0,c0⟩:=by
   rw [ez,q]
   rw [q] at hc
   simp only [List.length_nil,Nat.add_zero] at hc
   unfold repZ
   rw [hfl,hc]
   simp [mnL,mxL]
  rw [q] at hc
  simp only [List.length_nil,Nat.add_zero] at hc
  rw [if_pos (by omega),hz]
  unfold restB tailB
  rw [if_pos q,if_pos q]
 ·have hvl : 0 < (vals l).length:=List.length_pos_iff.2 q
  rw [if_neg (by omega)]
  obtain ⟨m1,m2⟩:=mn_mem (l:=vals l) (by omega) vals_ne q
  have evv : vals (vals l) = vals l:=vals_self vals_ne
  have ezv:=ofZ_rep (vals l) (by omega)
  rw [evv] at ezv
  have emn : (ofZ (vals l)).mn = (ofZ l).mn:=by rw [ez,ezv]; rfl
  have emx : (ofZ (vals l)).mx = (ofZ l).mx:=by rw [ez,ezv]; rfl
  have hmem : ∀ c ∈ vals l,c ∈ l:=fun c hc=>(List.mem_filter.1 hc).1
  have et : tailB kind (vals l) ++ b = oneB kind (ofZ l).mn ++ oneB kind (ofZ l).mx ++ (cellsB kind (vals l) ++ b):=by
   unfold tailB
   rw [if_neg q,emn,emx]
   simp
  rw [emn] at m1
  rw [emx] at m2
  rw [et,endB_put hk (hg _ m1) (hg _ m2) (hi _ (hmem _ m1)) (hi _ (hmem _ m2))]
  have hz : ofZ l = ⟨(flg l).length,cnt (flg l),(ofZ l).mn,(ofZ l).mx⟩:=by
   rw [ez]
   unfold repZ
   rw [hfl]
   congr 1
   omega
  have hle : (ofZ l).mn.cmp (ofZ l).mx ≤ 0:=by
   rw [ez]
   exact (mnL_spec q).2 _ (mxL_spec q).1
  simp only
  rw [← hz,if_pos (zoneE_zero.2 ⟨(hg _ m1).1,(hg _ m2).1,(hg _ m1).2,(hg _ m2).2,hle⟩)]
  unfold restB
  rw [if_neg q]
/-! ### 'Zone' -/
end Go.Proofs.YtlbmlncdjkdoaaaGreat.Sh
/- 'SegmentNulls' comes to true. -/
set_option linter.unusedVariables false
set_option linter.unusedSimpArgs false
set_option maxRecDepth 100000
namespace Go.Proofs.YtlbmlncdjkdoaaaGreat.Sh
open Go Go.RowKit Go.Proofs.Ev Go.Lib
end Go.Proofs.YtlbmlncdjkdoaaaGreat.Sh
/- Light cells, with their texts' bytes; how many bytes a segment has; a copy of cells. -/
set_option linter.unusedVariables false
set_option linter.unusedSimpArgs false
set_option maxRecDepth 100000
namespace Go.Proofs.YtlbmlncdjkdoaaaGreat.Sh
open Go Go.RowKit Go.Proofs.Ev Go.Lib
def tot (l : List CellD) : Nat:=(l.map fun c=>c.s.size).sum
theorem tot_cons (c : CellD) (l : List CellD) : tot (c :: l) = c.s.size + tot l:=by unfold tot; rw [List.map_cons,List.sum_cons]
theorem putI_256 (l : List Int) : ∀ x ∈ putI l,x < 256:=by
 have hh : ∀ {f : Nat},f < 256→∀ n,∀ x ∈ headB f n,x < 256:=fun {f} hf n x hx=>by
  unfold headB at hx
  rcases List.mem_cons.1 hx with rfl | hx
  ·exact hf
  ·exact pvarN_256 _ x hx
 have h1 : ∀ x ∈ plainB l,x < 256:=fun x hx=>by
  unfold plainB at hx
  rcases List.mem_append.1 hx with hx | hx
  ·exact hh (by omega) _ x hx
  ·obtain ⟨z,_,hz⟩:=List.mem_flatMap.1 hx
   exact le_lt _ _ _ x hz
 have h2 : ∀ x ∈ runsB l,x < 256:=fun x hx=>by
  unfold runsB at hx
  rcases List.mem_append.1 hx with hx | hx
  ·exact hh (by omega) _ x hx
  ·obtain ⟨z,_,hz⟩:=List.mem_flatMap.1 hx
   unfold runB at hz
   rcases List.mem_append.1 hz with hz | hz
   ·exact pvarN_256 _ x hz
   ·exact le_lt _ _ _ x hz
 have h3 : ∀ x ∈ packB l,x < 256:=fun x hx=>by
  unfold packB at hx
  rcases List.mem_append.1 hx with hx | hx
  ·rcases List.mem_append.1 hx with hx | hx
   ·exact hh (by omega) _ x hx
   ·exact le_lt _ _ _ x hx
  ·rcases List.mem_cons.1 hx with rfl | hx
   ·have:=Pk.width64 (l:=moreI l) (moreI_lt l)
    unfold widI
    omega
   ·exact (putN_spec _ _).2.2 x hx
 intro x hx
 unfold putI at hx
 simp only at hx
 split at hx <;> split at hx
 ·exact h3 x hx
 ·exact h2 x hx
 ·exact h3 x hx
 ·exact h1 x hx
theorem putT_256 (l : List ByteArray) : ∀ x ∈ putT l,x < 256:=fun x hx=>by
 unfold putT at hx
 split at hx
 ·rename_i hm
  split at hx
  ·exact dictG_256 l x (by unfold dictG; rw [if_pos hm]; exact hx)
  ·exact plainG_256 l x (by unfold plainG; rw [if_pos hm]; exact hx)
 ·cases hx
theorem putV_256 (l : List Bool) : ∀ x ∈ putV l,x < 256:=fun x hx=>by
 unfold putV at hx
 have:=formN_le l
 rcases List.mem_append.1 hx with hx | hx
 ·exact pvarN_256 _ x hx
 ·rcases List.mem_cons.1 hx with rfl | hx
  ·omega
  ·split at hx
   ·exact (putN_spec _ _).2.2 x hx
   ·cases hx
theorem oneB_256 (kind : Int) (c : CellD) : ∀ x ∈ oneB kind c,x < 256:=fun x hx=>by
 unfold oneB at hx
 split at hx
 ·exact le_lt _ _ _ x hx
 ·split at hx
  ·unfold oneT at hx
   rw [List.mem_singleton] at hx
   omega
  ·unfold oneW at hx
   rcases List.mem_append.1 hx with hx | hx
   ·exact pvarN_256 _ x hx
   ·exact bytesN_lt _ x hx
theorem cellsB_256 (kind : Int) (l : List CellD) : ∀ x ∈ cellsB kind l,x < 256:=fun x hx=>by
 unfold cellsB at hx
 split at hx
 ·exact putI_256 _ x hx
 ·split at hx
  ·unfold Pk.putL at hx
   split at hx
   ·exact (putN_spec _ _).2.2 x hx
   ·cases hx
  ·exact putT_256 _ x hx
theorem segB_256 {kind : Int} (hk : 1 ≤ kind ∧ kind ≤ 3) (l : List CellD) : ∀ x ∈ segB kind l,x < 256:=fun x hx=>by
 unfold segB tailB at hx
 rcases List.mem_append.1 hx with hx | hx
 ·rcases List.mem_append.1 hx with hx | hx
  ·rw [List.mem_singleton] at hx
   omega
  ·exact putV_256 _ x hx
 ·split at hx
  ·cases hx
  ·rcases List.mem_append.1 hx with hx | hx
   ·rcases List.mem_append.1 hx with hx | hx
    ·exact oneB_256 _ _ x hx
    ·exact oneB_256 _ _ x hx
   ·exact cellsB_256 _ _ x hx
/-! ### A copy -/
end Go.Proofs.YtlbmlncdjkdoaaaGreat.Sh
/- The document's comparison of cells; rows of rows, which of them are light. -/
set_option linter.unusedVariables false
set_option linter.unusedSimpArgs false
set_option maxRecDepth 100000
namespace Go.Proofs.YtlbmlncdjkdoaaaGreat.Sh
open Go Go.RowKit Go.Proofs.Ev Go.Lib
open Tryz (prog)
def bzVm:=PLift.up (ai @ld3 (ai @ld2 (ai @ld9 (ai @ld39 (ai @ld34 (ai @fa39_0 (ai @fa39_1 (ai @fa39_2 (@Nat.add_zero)))))))))
/-- Rows of rows. -/
def Rows (h : AH) (v : Value) (l : List (List CellD)) : Prop:=∃ vs : List Value,SlZ prog h v 1 (vs.map fun v=>[v]) ∧ All2 (Cells h) vs l
theorem Rows.grow {h h' : AH} {v : Value} {l : List (List CellD)} (S : Rows h v l) (g : Grow h h') : Rows h' v l:=by
 obtain ⟨vs,X,A⟩:=S
 exact ⟨vs,X.grow g,A.mono fun _ _ h=>h.grow g⟩
theorem Rows.len {h h' : AH} {v : Value} {l : List (List CellD)} (S : Rows h v l) : pLen prog #[23] v h' = some (.int .i64 l.length):=by
 obtain ⟨vs,X,A⟩:=S
 have:=X.len u23 (h':=h')
 rwa [List.length_map,A.len] at this
theorem Rows.at_ {h : AH} {v : Value} {l : List (List CellD)} (S : Rows h v l) {i : Nat} {x : List CellD} (hi : l[i]? = some x) :
  ∃ b o w,pIndexAddr prog 23 v (.int .i64 i) = some (.pointer (some ⟨b,o,none⟩)) ∧ h.cell b o = some w ∧ Cells h w x:=by
 obtain ⟨vs,X,A⟩:=S
 obtain ⟨w,hw,C⟩:=A.get hi
 obtain ⟨b,o,h1,h2⟩:=X.at_ (k:=.i64) (i:=i) (r:=[w]) (by simp [hw]) u23 sz34
 exact ⟨b,o,w,h1,by simpa using Ev.cell_of_row (j:=0) h2 (by omega),C⟩
def lightRs (l : List (List CellD)) (most : Int) : Bool:=l.all lightR && decide ((l.length : Int) ≤ most)
theorem f18_loop {β : Type} {k : Nat} {Q : β→Prop} {h : AH} {v m : Value} {l : List (List CellD)} (S : Rows h v l) (hl : l.length ≤ 9223372036854775807) (hls : ∀ r ∈ l,r.length ≤ 9223372036854775807 ∧ r.length < k) {ke0 : Value→Value→Value→Value→AH→Option β} {kr : Value→AH→Option β} (n : Nat) :
  ∀ {i j : Nat},i + n = l.length→n < j→((l.drop i).all lightR = true→∀ y1 y2,Tl (ke0 v m y1 y2 h) Q)→((l.drop i).all lightR = false→Tl (kr (.bool false) h) Q) →
   Tl (F18_lrlr (eInv env (k + 1)) (k + 1) j v m (.int .i64 i) h ke0 kr) Q:=by
 have hv : ∀ h',pLen prog #[23] v h' = some (.int .i64 l.length):=fun h'=>S.len
 induction n with
 | zero =>
  intro i j hi hj hk hr
  obtain ⟨j,rfl⟩ : ∃ q,j = q + 1:=⟨j - 1,by omega⟩
  simp only [F18_lrlr]
  with_reducible repeat (first | (apply qzV; simp (disch:=omega) only [zA,bzVm.1,hv] <;> rfl) | apply qzT | apply qzF | (apply qzB; simp (disch:=omega) only [zA,bzVm.1,hv] <;> rfl))
  exact hk (by rw [List.drop_eq_nil_of_le (by omega)]; rfl) _ _
 | succ n ih =>
  intro i j hi hj hk hr
  obtain ⟨j,rfl⟩ : ∃ q,j = q + 1:=⟨j - 1,by omega⟩
  obtain ⟨x,ex⟩ : ∃ x,l[i]? = some x:=⟨_,List.getElem?_eq_getElem (by omega)⟩
  obtain ⟨b,o,w,hp,hc,C⟩:=S.at_ ex
  obtain ⟨m1,m2⟩:=hls x (List.mem_of_getElem? ex)
  have hlr:=f47c (k:=k) C m1 m2
  have e : (i : Int) + 1 = ((i + 1 : Nat) : Int):=by omega
  rw [drop_at ex,List.all_cons] at hk hr
  simp only [F18_lrlr]
  cases q : lightR x with
  | true =>
   rw [q] at hlr
   rw [q,Bool.true_and] at hk hr
   with_reducible repeat (first | (apply qzV; simp (disch:=omega) only [zA,bzVm.1,hv,hp,hc,hlr] <;> rfl) | apply qzT | apply qzF | (apply qzB; simp (disch:=omega) only [zA,bzVm.1,hv,hp,hc,hlr] <;> rfl))
   rw [e]
   exact ih (by omega) (by omega) hk hr
  | false =>
   rw [q] at hlr
   rw [q,Bool.false_and] at hr
   with_reducible repeat (first | (apply qzV; simp (disch:=omega) only [zA,bzVm.1,hv,hp,hc,hlr] <;> rfl) | apply qzT | apply qzF | (apply qzB; simp (disch:=omega) only [zA,bzVm.1,hv,hp,hc,hlr] <;> rfl))
   exact hr rfl
theorem f18c {k : Nat} {h : AH} {v : Value} {l : List (List CellD)} (most : Int) (S : Rows h v l) (hl : l.length ≤ 9223372036854775807) (hls : ∀ r ∈ l,r.length ≤ 9223372036854775807 ∧ r.length < k) (hk : l.length < k + 1) : eInv env (k + 2) (.func 18) #[] #[v,.int .i64 most] h = some (.bool (lightRs l most),h):=by
 rw [F18_call]
 have T : Tl (F18 (eInv env (k + 1)) (k + 1) v (.int .i64 most) h) fun r=>r = (.bool (lightRs l most),h):=by
  unfold F18
  have hv : ∀ h',pLen prog #[23] v h' = some (.int .i64 l.length):=fun h'=>S.len
  refine f18_loop S hl hls l.length (i:=0) (by omega) hk (fun q y1 y2=>?_) fun q=>⟨_,rfl,?_⟩
  ·rw [List.drop_zero] at q
   with_reducible repeat (first | (apply qzV; simp (disch:=omega) only [zA,bzVm.1,hv] <;> rfl) | apply qzT | apply qzF | (apply qzB; simp (disch:=omega) only [zA,bzVm.1,hv] <;> rfl))
   refine ⟨_,rfl,?_⟩
   unfold lightRs
   rw [q,Bool.true_and]
  ·rw [List.drop_zero] at q
   unfold lightRs
   rw [q,Bool.false_and]
 obtain ⟨r,h1,h2⟩:=T
 rw [h1,h2]
end Go.Proofs.YtlbmlncdjkdoaaaGreat.Sh
/- The document's zones: 'Compare', 'Join'. -/
set_option linter.unusedVariables false
set_option linter.unusedSimpArgs false
set_option maxRecDepth 100000
namespace Go.Proofs.YtlbmlncdjkdoaaaGreat.Sh
open Go Go.RowKit Go.Proofs.Ev Go.Lib
end Go.Proofs.YtlbmlncdjkdoaaaGreat.Sh
/- 'SegmentOrder' comes to true. -/
set_option linter.unusedVariables false
set_option linter.unusedSimpArgs false
set_option maxRecDepth 100000
namespace Go.Proofs.YtlbmlncdjkdoaaaGreat.Sh
open Go Go.RowKit Go.Proofs.Ev Go.Lib
/-! ### Zones held against each other -/
/-! ### The plain law -/
end Go.Proofs.YtlbmlncdjkdoaaaGreat.Sh
/- The document's zones: 'Cell', 'Check' of zones that may be, 'Of'. -/
set_option linter.unusedVariables false
set_option linter.unusedSimpArgs false
set_option maxRecDepth 100000
namespace Go.Proofs.YtlbmlncdjkdoaaaGreat.Sh
open Go Go.RowKit Go.Proofs.Ev Go.Lib
theorem and1_01' (i : Int) : and1 i = 0 ∨ and1 i = 1:=by
 unfold and1
 have h : (BitVec.ofInt 64 i &&& BitVec.ofInt 64 1).toNat ≤ 1:=by
  rw [BitVec.toNat_and]
  have : (BitVec.ofInt 64 1).toNat = 1:=by decide
  rw [this,Nat.and_one_is_mod]
  omega
 generalize (BitVec.ofInt 64 i &&& BitVec.ofInt 64 1).toNat = n at h
 have : n = 0 ∨ n = 1:=by omega
 rcases this with rfl | rfl
 ·exact .inl (by decide)
 ·exact .inr (by decide)
def ok9 (c : CellD) : Prop:=if c.k = 0 then c.i = 0 ∧ c.s.size = 0 else if c.k = 1 then c.s.size = 0 else if c.k = 2 then (c.i = 0 ∨ c.i = 1) ∧ c.s.size = 0 else if c.k = 3 then c.i = 0 else False
theorem cell_iff {a b : CellD} : a = b ↔ a.k = b.k ∧ a.i = b.i ∧ a.s = b.s:=by
 constructor
 ·rintro rfl; exact ⟨rfl,rfl,rfl⟩
 ·rintro ⟨h1,h2,h3⟩; exact CellD.ext' h1 h2 (by unfold CellD.bytes; rw [h3])
theorem cellE_ok {c : CellD} (h : ¬ c.s.size > 65536) : (ok9 c→cellE c = 0) ∧ (¬ ok9 c→cellE c = 2):=by
 have hs : (.empty : ByteArray) = c.s ↔ c.s.size = 0:=by rw [eq_comm]; exact size0
 have key : (if c.k = 0 ∨ c.k = 1 ∨ c.k = 2 ∨ c.k = 3 then (if bare c = c then (0 : Int) else 2) else 2) = cellE c:=by unfold cellE; rw [if_neg h]
 rw [← key]
 unfold ok9 bare
 by_cases p0 : c.k = 0
 ·have e : c0 = c ↔ c.i = 0 ∧ c.s.size = 0:=by
   rw [cell_iff]
   simp only [c0]
   rw [hs]
   constructor
   ·rintro ⟨_,h2,h3⟩; exact ⟨h2.symm,h3⟩
   ·rintro ⟨h2,h3⟩; exact ⟨p0.symm,h2.symm,h3⟩
  simp only [if_pos (show c.k = 0 ∨ c.k = 1 ∨ c.k = 2 ∨ c.k = 3 from .inl p0),if_pos p0]
  exact ⟨fun q=>if_pos (e.2 q),fun q=>if_neg fun z=>q (e.1 z)⟩
 by_cases p1 : c.k = 1
 ·have e : (⟨c.k,c.i,.empty⟩ : CellD) = c ↔ c.s.size = 0:=by
   rw [cell_iff,← hs]
   simp
  simp only [if_pos (show c.k = 0 ∨ c.k = 1 ∨ c.k = 2 ∨ c.k = 3 from .inr (.inl p1)),if_neg p0,if_pos p1]
  exact ⟨fun q=>if_pos (e.2 q),fun q=>if_neg fun z=>q (e.1 z)⟩
 by_cases p2 : c.k = 2
 ·have e : (⟨c.k,and1 c.i,.empty⟩ : CellD) = c ↔ (c.i = 0 ∨ c.i = 1) ∧ c.s.size = 0:=by
   rw [cell_iff,← hs]
   simp only [true_and]
   refine and_congr_left fun _=>⟨fun q=>?_,fun q=>?_⟩
   ·have:=and1_01' c.i
    rw [q] at this
    exact this
   ·rcases q with q | q <;> rw [q] <;> decide
  simp only [if_pos (show c.k = 0 ∨ c.k = 1 ∨ c.k = 2 ∨ c.k = 3 from .inr (.inr (.inl p2))),if_neg p0,if_neg p1,if_pos p2]
  exact ⟨fun q=>if_pos (e.2 q),fun q=>if_neg fun z=>q (e.1 z)⟩
 by_cases p3 : c.k = 3
 ·have e : (⟨c.k,0,c.s⟩ : CellD) = c ↔ c.i = 0:=by
   rw [cell_iff]
   simp only [true_and,and_true]
   exact eq_comm
  simp only [if_pos (show c.k = 0 ∨ c.k = 1 ∨ c.k = 2 ∨ c.k = 3 from .inr (.inr (.inr p3))),if_neg p0,if_neg p1,if_neg p2,if_pos p3]
  exact ⟨fun q=>if_pos (e.2 q),fun q=>if_neg fun z=>q (e.1 z)⟩
 ·simp only [if_neg (show ¬ (c.k = 0 ∨ c.k = 1 ∨ c.k = 2 ∨ c.k = 3) from fun q=>q.elim p0 fun q=>q.elim p1 fun q=>q.elim p2 p3),if_neg p0,if_neg p1,if_neg p2,if_neg p3]
  exact ⟨fun q=>q.elim,fun _=>trivial⟩
end Go.Proofs.YtlbmlncdjkdoaaaGreat.Sh
/- Which names may be: by bytes, by runes. -/
set_option linter.unusedVariables false
set_option linter.unusedSimpArgs false
set_option maxRecDepth 100000
namespace Go.Proofs.YtlbmlncdjkdoaaaGreat.Sh
open Go Go.RowKit Go.Proofs.Ev
open Tryz (prog)
theorem ex1_0 {b : Bool} : pExtract (.tuple #[.bool b]) 0 = some (.bool b):=rfl
def bzVg:=PLift.up (ai @ld3 (ai @ld9 (ai @ex1_0 (ai @ex3_0 (ai @ex3_1 (@ex3_2))))))
/-- A letter, or a digit that does not stand first. -/
def okB (b i : Nat) : Bool:=decide ((97 ≤ b ∧ b ≤ 122) ∨ (65 ≤ b ∧ b ≤ 90) ∨ b = 95 ∨ (0 < i ∧ 48 ≤ b ∧ b ≤ 57))
def nameF (s : ByteArray) : Nat→Nat→Bool
 | 0,_=>true
 | n + 1,i=>okB (s.get! i).toNat i && nameF s n (i + 1)
def nameOk (s : ByteArray) : Bool:=decide (1 ≤ s.size) && decide (s.size ≤ 32) && nameF s s.size 0
theorem getB {s : ByteArray} {i : Nat} (h : i < s.size) : s[i]? = some (s.get! i):=by
 have h1 : s.get! i = s[i]'h:=by
  simp only [ByteArray.get!,ByteArray.getElem_eq_getElem_data]
  exact getElem!_pos ..
 rw [h1]
 exact getElem?_pos s i h
theorem idxS {s : ByteArray} {i : Nat} (h : i < s.size) : pIndex prog 9 (.string s) (.int .i64 (i : Int)) = some (.int .u8 ((s.get! i).toNat : Int)):=by
 rw [index_string u9 (by omega),show ((i : Int)).toNat = i by omega,getB h]
 rfl
theorem classes (b : Nat) : b < 48 ∨ (48 ≤ b ∧ b ≤ 57) ∨ (58 ≤ b ∧ b ≤ 64) ∨ (65 ≤ b ∧ b ≤ 90) ∨ (91 ≤ b ∧ b ≤ 94) ∨ b = 95 ∨ b = 96 ∨ (97 ≤ b ∧ b ≤ 122) ∨ 123 ≤ b:=by omega
theorem f46_loop {β : Type} {inv : Inv} {k : Nat} {Q : β→Prop} {h : AH} {s : ByteArray} (hl : s.size ≤ 100) {ke0 : Value→Value→Value→AH→Option β} {kr : Value→AH→Option β} (n : Nat) :
  ∀ {i j : Nat},i + n = s.size→n < j→(nameF s n i = true→∀ y1 y2 y3,Tl (ke0 y1 y2 y3 h) Q)→(nameF s n i = false→Tl (kr (.int .i64 170) h) Q)→Tl (F46_lrlrr inv k j (.string s) (.int .i64 i) h ke0 kr) Q:=by
 have hs : ∀ h' : AH,pLen prog #[9] (.string s) h' = some (.int .i64 s.size):=fun h'=>len_string u9
 induction n with
 | zero =>
  intro i j hi hj hk hr
  obtain ⟨j,rfl⟩ : ∃ q,j = q + 1:=⟨j - 1,by omega⟩
  simp only [F46_lrlrr]
  with_reducible repeat (first | (apply qzV; simp (disch:=omega) only [zA,bzVg.1,hs] <;> rfl) | apply qzT | apply qzF | apply qzG | ((first | apply qzB | apply qzC); simp (disch:=omega) only [zA,bzVg.1,hs] <;> rfl))
  exact hk rfl _ _ _
 | succ n ih =>
  intro i j hi hj hk hr
  obtain ⟨j,rfl⟩ : ∃ q,j = q + 1:=⟨j - 1,by omega⟩
  have hx:=idxS (s:=s) (i:=i) (by omega)
  have e : (i : Int) + 1 = ((i + 1 : Nat) : Int):=by omega
  simp only [F46_lrlrr]
  rw [nameF] at hk hr
  revert hx hk hr
  generalize (s.get! i).toNat = b
  intro hk hr hx
  have good : okB b i = true→Tl (F46_lrlrr inv k j (.string s) (.int .i64 ((i + 1 : Nat) : Int)) h ke0 kr) Q:=fun q=>by
   rw [q,Bool.true_and] at hk hr
   exact ih (by omega) (by omega) hk hr
  have bad : okB b i = false→Tl (kr (.int .i64 170) h) Q:=fun q=>hr (by rw [q,Bool.false_and])
  have no : ¬ ((97 ≤ b ∧ b ≤ 122) ∨ (65 ≤ b ∧ b ≤ 90) ∨ b = 95 ∨ (0 < i ∧ 48 ≤ b ∧ b ≤ 57))→okB b i = false:=fun q=>decide_eq_false q
  have yes : ((97 ≤ b ∧ b ≤ 122) ∨ (65 ≤ b ∧ b ≤ 90) ∨ b = 95 ∨ (0 < i ∧ 48 ≤ b ∧ b ≤ 57))→okB b i = true:=fun q=>decide_eq_true q
  clear hk hr ih
  rcases classes b with c | c | c | c | c | c | c | c | c
  ·with_reducible repeat (first | (apply qzV; simp (disch:=omega) only [zA,bzVg.1,hs,hx] <;> rfl) | apply qzT | apply qzF | apply qzG | ((first | apply qzB | apply qzC); simp (disch:=omega) only [zA,bzVg.1,hs,hx] <;> rfl))
   exact bad (no (by omega))
  ·by_cases i0 : i = 0
   ·with_reducible repeat (first | (apply qzV; simp (disch:=omega) only [zA,bzVg.1,hs,hx] <;> rfl) | apply qzT | apply qzF | apply qzG | ((first | apply qzB | apply qzC); simp (disch:=omega) only [zA,bzVg.1,hs,hx] <;> rfl))
    exact bad (no (by omega))
   ·with_reducible repeat (first | (apply qzV; simp (disch:=omega) only [zA,bzVg.1,hs,hx] <;> rfl) | apply qzT | apply qzF | apply qzG | ((first | apply qzB | apply qzC); simp (disch:=omega) only [zA,bzVg.1,hs,hx] <;> rfl))
    rw [e]
    exact good (yes (by omega))
  ·with_reducible repeat (first | (apply qzV; simp (disch:=omega) only [zA,bzVg.1,hs,hx] <;> rfl) | apply qzT | apply qzF | apply qzG | ((first | apply qzB | apply qzC); simp (disch:=omega) only [zA,bzVg.1,hs,hx] <;> rfl))
   exact bad (no (by omega))
  ·with_reducible repeat (first | (apply qzV; simp (disch:=omega) only [zA,bzVg.1,hs,hx] <;> rfl) | apply qzT | apply qzF | apply qzG | ((first | apply qzB | apply qzC); simp (disch:=omega) only [zA,bzVg.1,hs,hx] <;> rfl))
   rw [e]
   exact good (yes (by omega))
  ·with_reducible repeat (first | (apply qzV; simp (disch:=omega) only [zA,bzVg.1,hs,hx] <;> rfl) | apply qzT | apply qzF | apply qzG | ((first | apply qzB | apply qzC); simp (disch:=omega) only [zA,bzVg.1,hs,hx] <;> rfl))
   exact bad (no (by omega))
  ·with_reducible repeat (first | (apply qzV; simp (disch:=omega) only [zA,bzVg.1,hs,hx] <;> rfl) | apply qzT | apply qzF | apply qzG | ((first | apply qzB | apply qzC); simp (disch:=omega) only [zA,bzVg.1,hs,hx] <;> rfl))
   rw [e]
   exact good (yes (by omega))
  ·with_reducible repeat (first | (apply qzV; simp (disch:=omega) only [zA,bzVg.1,hs,hx] <;> rfl) | apply qzT | apply qzF | apply qzG | ((first | apply qzB | apply qzC); simp (disch:=omega) only [zA,bzVg.1,hs,hx] <;> rfl))
   exact bad (no (by omega))
  ·with_reducible repeat (first | (apply qzV; simp (disch:=omega) only [zA,bzVg.1,hs,hx] <;> rfl) | apply qzT | apply qzF | apply qzG | ((first | apply qzB | apply qzC); simp (disch:=omega) only [zA,bzVg.1,hs,hx] <;> rfl))
   rw [e]
   exact good (yes (by omega))
  ·with_reducible repeat (first | (apply qzV; simp (disch:=omega) only [zA,bzVg.1,hs,hx] <;> rfl) | apply qzT | apply qzF | apply qzG | ((first | apply qzB | apply qzC); simp (disch:=omega) only [zA,bzVg.1,hs,hx] <;> rfl))
   exact bad (no (by omega))
theorem f46e {k : Nat} (s : ByteArray) (h : AH) : eInv env (k + 101) (.func 46) #[] #[.string s] h = some (.int .i64 (if nameOk s then 0 else 170),h):=by
 rw [F46_call]
 have T : Tl (F46 (eInv env (k + 100)) (k + 100) (.string s) h) fun r=>r = (.int .i64 (if nameOk s then 0 else 170),h):=by
  have hs : ∀ h' : AH,pLen prog #[9] (.string s) h' = some (.int .i64 s.size):=fun h'=>len_string u9
  unfold F46 nameOk
  by_cases s0 : 1 ≤ s.size
  ·by_cases s1 : s.size ≤ 32
   ·rw [decide_eq_true s0,decide_eq_true s1,Bool.true_and,Bool.true_and]
    with_reducible repeat (first | (apply qzV; simp (disch:=omega) only [zA,bzVg.1,hs] <;> rfl) | apply qzT | apply qzF | apply qzG | ((first | apply qzB | apply qzC); simp (disch:=omega) only [zA,bzVg.1,hs] <;> rfl))
    refine f46_loop (by omega) s.size (i:=0) (by omega) (by omega) (fun q y1 y2 y3=>?_) fun q=>?_
    ·rw [q]; exact ⟨_,rfl,rfl⟩
    ·rw [q]; exact ⟨_,rfl,rfl⟩
   ·rw [decide_eq_true s0,decide_eq_false s1,Bool.true_and,Bool.false_and]
    with_reducible repeat (first | (apply qzV; simp (disch:=omega) only [zA,bzVg.1,hs] <;> rfl) | apply qzT | apply qzF | apply qzG | ((first | apply qzB | apply qzC); simp (disch:=omega) only [zA,bzVg.1,hs] <;> rfl))
    exact ⟨_,rfl,rfl⟩
  ·rw [decide_eq_false s0,Bool.false_and,Bool.false_and]
   with_reducible repeat (first | (apply qzV; simp (disch:=omega) only [zA,bzVg.1,hs] <;> rfl) | apply qzT | apply qzF | apply qzG | ((first | apply qzB | apply qzC); simp (disch:=omega) only [zA,bzVg.1,hs] <;> rfl))
   exact ⟨_,rfl,rfl⟩
 obtain ⟨r,h1,h2⟩:=T
 rw [h1,h2]
/-! ### By runes -/
theorem dec_low {s : ByteArray} {i : Nat} (h : (s.get! i).toNat < 128) : Utf8.decode s i = ((s.get! i).toNat,1):=by
 rw [Lib.decode_at]
 unfold Lib.decodeN
 rw [if_pos h]
theorem dec_high {s : ByteArray} {i : Nat} (h : 128 ≤ (s.get! i).toNat) : 128 ≤ (Utf8.decode s i).1:=by
 rw [Lib.decode_at]
 unfold Lib.decodeN
 rw [if_neg (by omega)]
 repeat' split
 all_goals (simp only; omega)
theorem Tl.nxt {β : Type} {Q : β→Prop} {n0 : Nat} {h0 h : AH} {L : List (Nat × AO)} {O : List OS} {b pos : Nat} {s : ByteArray} {K : Value × AH→Option β} (S : Stt prog n0 h0 h L O) (i : Nat) (hi : L[i]? = some (b,.iter s pos)) (hp : pos < s.size)
  (hk : ∀ h',Stt prog n0 h0 h' (L.set i (b,.iter s (pos + (Utf8.decode s pos).2))) O→Tl (K (.tuple #[.bool true,.int .i64 pos,.int .i32 (Utf8.decode s pos).1],h')) Q) : Tl (bnd (pNext (.pointer (some ⟨b,0,none⟩)) true h) K) Q:=by
 unfold pNext
 simp only [S.sta.mem.at_ hi]
 rw [if_pos hp]
 exact hk _ (S.set i hi _)
theorem Tl.nxtE {β : Type} {Q : β→Prop} {n0 : Nat} {h0 h : AH} {L : List (Nat × AO)} {O : List OS} {b pos : Nat} {s : ByteArray} {K : Value × AH→Option β} (S : Stt prog n0 h0 h L O) (i : Nat) (hi : L[i]? = some (b,.iter s pos)) (hp : ¬ pos < s.size)
  (hk : Tl (K (.tuple #[.bool false],h)) Q) : Tl (bnd (pNext (.pointer (some ⟨b,0,none⟩)) true h) K) Q:=by
 unfold pNext
 simp only [S.sta.mem.at_ hi]
 rw [if_neg hp]
 exact hk
theorem f64_loop {β : Type} {inv : Inv} {k : Nat} {Q : β→Prop} {n0 : Nat} {h0 : AH} {L : List (Nat × AO)} {O : List OS} {s : ByteArray} {b : Nat} (hl : s.size ≤ 100) {ke0 : Value→Value→Value→AH→Option β} {kr : Value→AH→Option β} (n : Nat) :
  ∀ {i j : Nat} {h : AH} {x3 x4 x19 x34 : Value},i + n = s.size→n < j→Stt prog n0 h0 h ((b,.iter s i) :: L) O→(nameF s n i = true→∀ y1 y2 y3 h',Stt prog n0 h0 h' ((b,.iter s s.size) :: L) O→Tl (ke0 y1 y2 y3 h') Q) →
   (nameF s n i = false→∀ h' p,Stt prog n0 h0 h' ((b,.iter s p) :: L) O→Tl (kr (.int .i64 170) h') Q)→Tl (F64_lrlrrlr inv k j x3 x4 (.pointer (some ⟨b,0,none⟩)) x19 x34 h ke0 kr) Q:=by
 induction n with
 | zero =>
  intro i j h x3 x4 x19 x34 hi hj S hk hr
  obtain ⟨j,rfl⟩ : ∃ q,j = q + 1:=⟨j - 1,by omega⟩
  simp only [F64_lrlrrlr]
  refine Tl.nxtE S 0 rfl (by omega) ?_
  with_reducible repeat (first | (apply qzV; simp (disch:=omega) only [zA,bzVg.1] <;> rfl) | apply qzT | apply qzF | apply qzG | ((first | apply qzB | apply qzC); simp (disch:=omega) only [zA,bzVg.1] <;> rfl))
  have : i = s.size:=by omega
  subst this
  exact hk rfl _ _ _ _ S
 | succ n ih =>
  intro i j h x3 x4 x19 x34 hi hj S hk hr
  obtain ⟨j,rfl⟩ : ∃ q,j = q + 1:=⟨j - 1,by omega⟩
  simp only [F64_lrlrrlr]
  refine Tl.nxt S 0 rfl (by omega) fun h1 S1=>?_
  have S1 : Stt prog n0 h0 h1 ((b,.iter s (i + (Utf8.decode s i).2)) :: L) O:=S1
  rw [nameF] at hk hr
  have good : okB (s.get! i).toNat i = true→∀ x3 x4 x19 x34,(Utf8.decode s i).2 = 1→Tl (F64_lrlrrlr inv k j x3 x4 (.pointer (some ⟨b,0,none⟩)) x19 x34 h1 ke0 kr) Q:=fun q x3 x4 x19 x34 hd=>by
   rw [q,Bool.true_and] at hk hr
   rw [hd] at S1
   exact ih (by omega) (by omega) S1 hk hr
  have bad : okB (s.get! i).toNat i = false→Tl (kr (.int .i64 170) h1) Q:=fun q=>hr (by rw [q,Bool.false_and]) _ _ S1
  unfold F64_rlllrlrrllrlrrlr
  by_cases hh : (s.get! i).toNat < 128
  ·have hd:=dec_low hh
   have hd1 : (Utf8.decode s i).1 = (s.get! i).toNat:=by rw [hd]
   have hd2 : (Utf8.decode s i).2 = 1:=by rw [hd]
   rw [hd1]
   clear hk hr ih hd
   revert good bad
   generalize (s.get! i).toNat = b at hh hd1 ⊢
   intro good bad
   have no : ¬ ((97 ≤ b ∧ b ≤ 122) ∨ (65 ≤ b ∧ b ≤ 90) ∨ b = 95 ∨ (0 < i ∧ 48 ≤ b ∧ b ≤ 57))→okB b i = false:=fun q=>decide_eq_false q
   have yes : ((97 ≤ b ∧ b ≤ 122) ∨ (65 ≤ b ∧ b ≤ 90) ∨ b = 95 ∨ (0 < i ∧ 48 ≤ b ∧ b ≤ 57))→okB b i = true:=fun q=>decide_eq_true q
   rcases classes b with c | c | c | c | c | c | c | c | c
   ·by_cases i0 : i = 0
    ·with_reducible repeat (first | (apply qzV; simp (disch:=omega) only [zA,bzVg.1] <;> rfl) | apply qzT | apply qzF | apply qzG | ((first | apply qzB | apply qzC); simp (disch:=omega) only [zA,bzVg.1] <;> rfl))
     exact bad (no (by omega))
    ·with_reducible repeat (first | (apply qzV; simp (disch:=omega) only [zA,bzVg.1] <;> rfl) | apply qzT | apply qzF | apply qzG | ((first | apply qzB | apply qzC); simp (disch:=omega) only [zA,bzVg.1] <;> rfl))
     exact bad (no (by omega))
   ·by_cases i0 : i = 0
    ·with_reducible repeat (first | (apply qzV; simp (disch:=omega) only [zA,bzVg.1] <;> rfl) | apply qzT | apply qzF | apply qzG | ((first | apply qzB | apply qzC); simp (disch:=omega) only [zA,bzVg.1] <;> rfl))
     exact bad (no (by omega))
    ·with_reducible repeat (first | (apply qzV; simp (disch:=omega) only [zA,bzVg.1] <;> rfl) | apply qzT | apply qzF | apply qzG | ((first | apply qzB | apply qzC); simp (disch:=omega) only [zA,bzVg.1] <;> rfl))
     exact good (yes (by omega)) _ _ _ _ hd2
   ·by_cases i0 : i = 0
    ·with_reducible repeat (first | (apply qzV; simp (disch:=omega) only [zA,bzVg.1] <;> rfl) | apply qzT | apply qzF | apply qzG | ((first | apply qzB | apply qzC); simp (disch:=omega) only [zA,bzVg.1] <;> rfl))
     exact bad (no (by omega))
    ·with_reducible repeat (first | (apply qzV; simp (disch:=omega) only [zA,bzVg.1] <;> rfl) | apply qzT | apply qzF | apply qzG | ((first | apply qzB | apply qzC); simp (disch:=omega) only [zA,bzVg.1] <;> rfl))
     exact bad (no (by omega))
   ·with_reducible repeat (first | (apply qzV; simp (disch:=omega) only [zA,bzVg.1] <;> rfl) | apply qzT | apply qzF | apply qzG | ((first | apply qzB | apply qzC); simp (disch:=omega) only [zA,bzVg.1] <;> rfl))
    exact good (yes (by omega)) _ _ _ _ hd2
   ·by_cases i0 : i = 0
    ·with_reducible repeat (first | (apply qzV; simp (disch:=omega) only [zA,bzVg.1] <;> rfl) | apply qzT | apply qzF | apply qzG | ((first | apply qzB | apply qzC); simp (disch:=omega) only [zA,bzVg.1] <;> rfl))
     exact bad (no (by omega))
    ·with_reducible repeat (first | (apply qzV; simp (disch:=omega) only [zA,bzVg.1] <;> rfl) | apply qzT | apply qzF | apply qzG | ((first | apply qzB | apply qzC); simp (disch:=omega) only [zA,bzVg.1] <;> rfl))
     exact bad (no (by omega))
   ·with_reducible repeat (first | (apply qzV; simp (disch:=omega) only [zA,bzVg.1] <;> rfl) | apply qzT | apply qzF | apply qzG | ((first | apply qzB | apply qzC); simp (disch:=omega) only [zA,bzVg.1] <;> rfl))
    exact good (yes (by omega)) _ _ _ _ hd2
   ·by_cases i0 : i = 0
    ·with_reducible repeat (first | (apply qzV; simp (disch:=omega) only [zA,bzVg.1] <;> rfl) | apply qzT | apply qzF | apply qzG | ((first | apply qzB | apply qzC); simp (disch:=omega) only [zA,bzVg.1] <;> rfl))
     exact bad (no (by omega))
    ·with_reducible repeat (first | (apply qzV; simp (disch:=omega) only [zA,bzVg.1] <;> rfl) | apply qzT | apply qzF | apply qzG | ((first | apply qzB | apply qzC); simp (disch:=omega) only [zA,bzVg.1] <;> rfl))
     exact bad (no (by omega))
   ·with_reducible repeat (first | (apply qzV; simp (disch:=omega) only [zA,bzVg.1] <;> rfl) | apply qzT | apply qzF | apply qzG | ((first | apply qzB | apply qzC); simp (disch:=omega) only [zA,bzVg.1] <;> rfl))
    exact good (yes (by omega)) _ _ _ _ hd2
   ·by_cases i0 : i = 0
    ·with_reducible repeat (first | (apply qzV; simp (disch:=omega) only [zA,bzVg.1] <;> rfl) | apply qzT | apply qzF | apply qzG | ((first | apply qzB | apply qzC); simp (disch:=omega) only [zA,bzVg.1] <;> rfl))
     exact bad (no (by omega))
    ·with_reducible repeat (first | (apply qzV; simp (disch:=omega) only [zA,bzVg.1] <;> rfl) | apply qzT | apply qzF | apply qzG | ((first | apply qzB | apply qzC); simp (disch:=omega) only [zA,bzVg.1] <;> rfl))
     exact bad (no (by omega))
  ·have hd1:=dec_high (s:=s) (i:=i) (by omega)
   have nb : okB (s.get! i).toNat i = false:=decide_eq_false (by omega)
   generalize (Utf8.decode s i).1 = r at hd1 ⊢
   by_cases i0 : i = 0
   ·with_reducible repeat (first | (apply qzV; simp (disch:=omega) only [zA,bzVg.1] <;> rfl) | apply qzT | apply qzF | apply qzG | ((first | apply qzB | apply qzC); simp (disch:=omega) only [zA,bzVg.1] <;> rfl))
    exact bad nb
   ·with_reducible repeat (first | (apply qzV; simp (disch:=omega) only [zA,bzVg.1] <;> rfl) | apply qzT | apply qzF | apply qzG | ((first | apply qzB | apply qzC); simp (disch:=omega) only [zA,bzVg.1] <;> rfl))
    exact bad nb
theorem f64c {k : Nat} (s : ByteArray) (h : AH) : Tl (eInv env (k + 101) (.func 64) #[] #[.string s] h) fun r=>r.1 = .int .i64 (if nameOk s then 0 else 170) ∧ Grow h r.2:=by
 rw [F64_call]
 have hs : ∀ h' : AH,pLen prog #[9] (.string s) h' = some (.int .i64 s.size):=fun h'=>len_string u9
 unfold F64 nameOk
 by_cases s0 : 1 ≤ s.size
 ·by_cases s1 : s.size ≤ 32
  ·rw [decide_eq_true s0,decide_eq_true s1,Bool.true_and,Bool.true_and]
   have hrg : pRange prog 9 (.string s) h = some (.pointer (some ⟨h.n,0,none⟩),h.alloc (.iter s 0)):=by
    unfold pRange
    rw [u9]
   with_reducible repeat (first | (apply qzV; simp (disch:=omega) only [zA,bzVg.1,hs,hrg] <;> rfl) | apply qzT | apply qzF | apply qzG | ((first | apply qzB | apply qzC); simp (disch:=omega) only [zA,bzVg.1,hs,hrg] <;> rfl))
   have S:=(Stt.init h : Stt prog h.n h h [] []).alloc (.iter s 0)
   refine f64_loop (by omega) s.size (i:=0) (by omega) (by omega) S (fun q y1 y2 y3 h' S'=>?_) fun q h' p S'=>?_
   ·rw [q]; exact ⟨_,rfl,rfl,S'.grow⟩
   ·rw [q]; exact ⟨_,rfl,rfl,S'.grow⟩
  ·rw [decide_eq_true s0,decide_eq_false s1,Bool.true_and,Bool.false_and]
   with_reducible repeat (first | (apply qzV; simp (disch:=omega) only [zA,bzVg.1,hs] <;> rfl) | apply qzT | apply qzF | apply qzG | ((first | apply qzB | apply qzC); simp (disch:=omega) only [zA,bzVg.1,hs] <;> rfl))
   exact ⟨_,rfl,rfl,Grow.refl _⟩
 ·rw [decide_eq_false s0,Bool.false_and,Bool.false_and]
  with_reducible repeat (first | (apply qzV; simp (disch:=omega) only [zA,bzVg.1,hs] <;> rfl) | apply qzT | apply qzF | apply qzG | ((first | apply qzB | apply qzC); simp (disch:=omega) only [zA,bzVg.1,hs] <;> rfl))
  exact ⟨_,rfl,rfl,Grow.refl _⟩
end Go.Proofs.YtlbmlncdjkdoaaaGreat.Sh
