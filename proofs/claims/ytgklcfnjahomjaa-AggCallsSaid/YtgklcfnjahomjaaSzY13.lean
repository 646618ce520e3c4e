/- Rows' keys are in the rows' own order: no program in sight. -/
import Derived.Test.YtgklcfnjahomjaaSzYA
set_option linter.unusedVariables false
set_option linter.unusedSimpArgs false
set_option maxRecDepth 100000
namespace Go.Proofs.Ytgklcfnjahomjaa.Sh
open Go Go.RowKit Go.Proofs.Ev Go.Lib Go.Sort
/-- Numbers in order, the first that differ. -/
def cmpN : List Nat→List Nat→Int
 | [],[]=>0
 | [],_ :: _=>-1
 | _ :: _,[]=>1
 | x :: a,y :: b=>if x < y then -1 else if y < x then 1 else cmpN a b
theorem cmpN_cons (x y : Nat) (a b : List Nat) : cmpN (x :: a) (y :: b) = if x < y then -1 else if y < x then 1 else cmpN a b:=rfl
theorem cmpN_same (x : Nat) (a b : List Nat) : cmpN (x :: a) (x :: b) = cmpN a b:=by rw [cmpN_cons,if_neg (by omega),if_neg (by omega)]
theorem cmpN_lt {x y : Nat} (h : x < y) (a b : List Nat) : cmpN (x :: a) (y :: b) = -1:=by rw [cmpN_cons,if_pos h]
theorem cmpN_gt {x y : Nat} (h : y < x) (a b : List Nat) : cmpN (x :: a) (y :: b) = 1:=by rw [cmpN_cons,if_neg (by omega),if_pos h]
theorem cmpN_bytes : ∀ (l m : List UInt8),cmpN (l.map UInt8.toNat) (m.map UInt8.toNat) = compareBytes l m
 | [],[]=>rfl
 | [],_ :: _=>rfl
 | _ :: _,[]=>rfl
 | x :: l,y :: m=>by
  simp only [List.map_cons,cmpN_cons,compareBytes,UInt8.lt_iff_toNat_lt,cmpN_bytes l m]
theorem cmpN_of {l m : List Nat} (hl : ∀ x ∈ l,x < 256) (hm : ∀ x ∈ m,x < 256) : compareBytes (l.map UInt8.ofNat) (m.map UInt8.ofNat) = cmpN l m:=by
 have e : ∀ {l : List Nat},(∀ x ∈ l,x < 256)→(l.map UInt8.ofNat).map UInt8.toNat = l:=fun {l} h=>by
  rw [List.map_map]
  refine (List.map_congr_left fun x hx=>?_).trans (List.map_id l)
  have:=h x hx
  simp [UInt8.toNat_ofNat']
  omega
 rw [← cmpN_bytes,e hl,e hm]
theorem cmpN_be : ∀ (i p q : Nat) (s t : List Nat),cmpN (beN i p ++ s) (beN i q ++ t) = if p % 2 ^ (8 * i) < q % 2 ^ (8 * i) then -1 else if q % 2 ^ (8 * i) < p % 2 ^ (8 * i) then 1 else cmpN s t
 | 0,p,q,s,t=>by simp [beN,Nat.mod_one]
 | i + 1,p,q,s,t=>by
  have hp : (2 : Nat) ^ (8 * (i + 1)) = 2 ^ (8 * i) * 256:=by rw [show 8 * (i + 1) = 8 * i + 8 by omega,Nat.pow_add]
  have hpos : 0 < (2 : Nat) ^ (8 * i):=Nat.pow_pos (by omega)
  rw [hp,Nat.mod_mul,Nat.mod_mul]
  simp only [beN,List.cons_append,cmpN_cons,cmpN_be i p q s t]
  have r1:=Nat.mod_lt p hpos
  have r2:=Nat.mod_lt q hpos
  generalize p / 2 ^ (8 * i) % 256 = a
  generalize q / 2 ^ (8 * i) % 256 = b
  generalize p % 2 ^ (8 * i) = r at r1 ⊢
  generalize q % 2 ^ (8 * i) = r' at r2 ⊢
  generalize (2 : Nat) ^ (8 * i) = M at r1 r2 ⊢
  by_cases h1 : a < b
  ·have:=Nat.mul_le_mul_left M (show a + 1 ≤ b by omega)
   rw [Nat.mul_add,Nat.mul_one] at this
   rw [if_pos h1,if_pos (by omega)]
  ·by_cases h2 : b < a
   ·have:=Nat.mul_le_mul_left M (show b + 1 ≤ a by omega)
    rw [Nat.mul_add,Nat.mul_one] at this
    rw [if_neg h1,if_pos h2,if_neg (by omega),if_pos (by omega)]
   ·have : a = b:=by omega
    subst this
    rw [if_neg h1,if_neg h2]
    by_cases h3 : r < r'
    ·rw [if_pos h3,if_pos (by omega)]
    ·by_cases h4 : r' < r
     ·rw [if_neg h3,if_pos h4,if_neg (by omega),if_pos (by omega)]
     ·rw [if_neg h3,if_neg h4,if_neg (by omega),if_neg (by omega)]
theorem escB_cons (c : Nat) (l : List Nat) : escB (c :: l) = if c = 0 then 0 :: 255 :: escB l else c :: escB l:=rfl
theorem cmpN_esc : ∀ (a b s t : List Nat),cmpN (escB a ++ 0 :: 0 :: s) (escB b ++ 0 :: 0 :: t) = if cmpN a b = 0 then cmpN s t else cmpN a b
 | [],[],s,t=>by
  simp only [escB,List.nil_append,cmpN_same]
  exact (if_pos (show cmpN [] [] = 0 from rfl)).symm
 | [],d :: m,s,t=>by
  rw [if_neg (by simp [cmpN])]
  rw [escB_cons]
  split
  ·simp only [escB,List.nil_append,List.cons_append,cmpN_same]
   rw [cmpN_lt (by omega)]; rfl
  ·simp only [escB,List.nil_append,List.cons_append]
   rw [cmpN_lt (by omega)]; rfl
 | c :: l,[],s,t=>by
  rw [if_neg (by simp [cmpN])]
  rw [escB_cons]
  split
  ·simp only [escB,List.nil_append,List.cons_append,cmpN_same]
   rw [cmpN_gt (by omega)]; rfl
  ·simp only [escB,List.nil_append,List.cons_append]
   rw [cmpN_gt (by omega)]; rfl
 | c :: l,d :: m,s,t=>by
  have ih:=cmpN_esc l m s t
  rw [escB_cons,escB_cons]
  by_cases hc : c = 0
  ·by_cases hd : d = 0
   ·rw [if_pos hc,if_pos hd]
    simp only [List.cons_append,cmpN_same]
    rw [hc,hd,cmpN_same]
    exact ih
   ·rw [if_pos hc,if_neg hd]
    simp only [List.cons_append]
    rw [cmpN_lt (by omega),cmpN_lt (by omega),if_neg (by omega)]
  ·by_cases hd : d = 0
   ·rw [if_neg hc,if_pos hd]
    simp only [List.cons_append]
    rw [cmpN_gt (by omega),cmpN_gt (by omega),if_neg (by omega)]
   ·rw [if_neg hc,if_neg hd]
    simp only [List.cons_append]
    by_cases h1 : c < d
    ·rw [cmpN_lt h1,cmpN_lt h1,if_neg (by omega)]
    ·by_cases h2 : d < c
     ·rw [cmpN_gt h2,cmpN_gt h2,if_neg (by omega)]
     ·have : c = d:=by omega
      subst this
      rw [cmpN_same,cmpN_same]
      exact ih
/-- A cell's key: its kind's number, then the rest. -/
def keyR (c : CellD) : List Nat:=if c.k = 1 then beN 8 (keyI c.i) else if c.k = 2 then [c.i.toNat] else if c.k = 3 then escB (bytesN c.s) ++ [0,0] else []
theorem cellOk_k {c : CellD} (h : cellOk c = true) : c.k = 0 ∧ c.i = 0 ∧ c.s = .empty ∨ c.k = 1 ∧ c.s = .empty ∨ c.k = 2 ∧ c.s = .empty ∧ (c.i = 0 ∨ c.i = 1) ∨ c.k = 3 ∧ c.i = 0:=by
 have sz : ∀ s : ByteArray,s.size = 0→s = .empty:=fun s h=>by
  obtain ⟨⟨l⟩⟩:=s
  have : l = []:=by simpa [ByteArray.size] using h
  subst this
  rfl
 unfold cellOk at h
 split at h
 ·simp only [Bool.and_eq_true,decide_eq_true_eq] at h
  exact .inl ⟨by assumption,h.1,sz _ h.2⟩
 ·split at h
  ·simp only [decide_eq_true_eq] at h
   exact .inr (.inl ⟨by assumption,sz _ h⟩)
  ·split at h
   ·simp only [Bool.and_eq_true,Bool.or_eq_true,decide_eq_true_eq] at h
    exact .inr (.inr (.inl ⟨by assumption,sz _ h.1,h.2⟩))
   ·split at h
    ·simp only [Bool.and_eq_true,decide_eq_true_eq] at h
     exact .inr (.inr (.inr ⟨by assumption,h.1⟩))
    ·cases h
theorem keyC_eq {c : CellD} (h : cellOk c = true) : keyC c = c.k.toNat :: keyR c:=by
 unfold keyC keyR
 rcases cellOk_k h with ⟨e,_⟩ | ⟨e,_⟩ | ⟨e,_⟩ | ⟨e,_⟩ <;> simp [e]
theorem cmp_kind {x y : CellD} (h : x.k ≠ y.k) : x.cmp y = cmpI x.k y.k:=by
 unfold CellD.cmp orI
 rw [if_neg (fun e=>h ((cmpI_zero _ _).1 e))]
theorem cmp_same {x y : CellD} (h : x.k = y.k) : x.cmp y = orI (cmpI x.i y.i) (compareBytes x.bytes y.bytes):=by
 unfold CellD.cmp
 rw [(cmpI_zero _ _).2 h]
 rfl
theorem orI_0 (a : Int) : orI a 0 = a:=by
 unfold orI
 split
 ·symm; assumption
 ·rfl
theorem keyC_cmp {x y : CellD} (hx : cellOk x = true) (hy : cellOk y = true) (rx : cellR x) (ry : cellR y) (s t : List Nat) : cmpN (keyC x ++ s) (keyC y ++ t) = if x.cmp y = 0 then cmpN s t else x.cmp y:=by
 rw [keyC_eq hx,keyC_eq hy,List.cons_append,List.cons_append]
 by_cases hk : x.k = y.k
 ·rw [cmp_same hk,hk,cmpN_same]
  unfold keyR
  rcases cellOk_k hx with ⟨e,i1,s1⟩ | ⟨e,s1⟩ | ⟨e,s1,i1⟩ | ⟨e,i1⟩ <;> rcases cellOk_k hy with ⟨f,i2,s2⟩ | ⟨f,s2⟩ | ⟨f,s2,i2⟩ | ⟨f,i2⟩
  all_goals first | (exfalso; omega) | skip
  ·have hb : compareBytes x.bytes y.bytes = 0:=by unfold CellD.bytes; rw [s1,s2]; rfl
   rw [hb,orI_0,i1,i2,if_pos ((cmpI_zero _ _).2 rfl)]
   simp [e,f]
  ·have hb : compareBytes x.bytes y.bytes = 0:=by unfold CellD.bytes; rw [s1,s2]; rfl
   rw [hb,orI_0,if_pos e,if_pos f,cmpN_be]
   unfold cellR at rx ry
   have hm : ∀ z : Int,-9223372036854775808 ≤ z ∧ z ≤ 9223372036854775807→keyI z % 2 ^ (8 * 8) = keyI z:=fun z hz=>Nat.mod_eq_of_lt (by unfold keyI; omega)
   rw [hm _ rx,hm _ ry]
   unfold keyI cmpI
   by_cases h1 : x.i < y.i
   ·rw [if_pos (by omega),if_pos h1,if_neg (by omega)]
   ·by_cases h2 : y.i < x.i
    ·rw [if_neg (by omega),if_pos (by omega),if_neg h1,if_pos h2,if_neg (by omega)]
    ·rw [if_neg (by omega),if_neg (by omega),if_neg h1,if_neg h2,if_pos rfl]
  ·have hb : compareBytes x.bytes y.bytes = 0:=by unfold CellD.bytes; rw [s1,s2]; rfl
   rw [hb,orI_0,if_neg (by omega),if_pos e,if_neg (by omega),if_pos f,List.singleton_append,List.singleton_append,cmpN_cons]
   unfold cmpI
   by_cases h1 : x.i < y.i
   ·rw [if_pos (by omega),if_pos h1,if_neg (by omega)]
   ·by_cases h2 : y.i < x.i
    ·rw [if_neg (by omega),if_pos (by omega),if_neg h1,if_pos h2,if_neg (by omega)]
    ·rw [if_neg (by omega),if_neg (by omega),if_neg h1,if_neg h2,if_pos rfl]
  ·have hi : cmpI x.i y.i = 0:=(cmpI_zero _ _).2 (by omega)
   have ho : orI (cmpI x.i y.i) (compareBytes x.bytes y.bytes) = compareBytes x.bytes y.bytes:=by rw [hi]; rfl
   have hb : compareBytes x.bytes y.bytes = cmpN (bytesN x.s) (bytesN y.s):=(cmpN_bytes _ _).symm
   rw [ho,hb,if_neg (by omega),if_neg (by omega),if_pos e,if_neg (by omega),if_neg (by omega),if_pos f]
   rw [List.append_assoc,List.append_assoc]
   exact cmpN_esc _ _ _ _
 ·have hc:=cmp_kind hk
  rw [hc,if_neg (fun e=>hk ((cmpI_zero _ _).1 e))]
  have k1 : 0 ≤ x.k:=by rcases cellOk_k hx with ⟨e,_⟩ | ⟨e,_⟩ | ⟨e,_⟩ | ⟨e,_⟩ <;> omega
  have k2 : 0 ≤ y.k:=by rcases cellOk_k hy with ⟨e,_⟩ | ⟨e,_⟩ | ⟨e,_⟩ | ⟨e,_⟩ <;> omega
  unfold cmpI
  by_cases h1 : x.k < y.k
  ·rw [if_pos h1,cmpN_lt (by omega)]
  ·rw [if_neg h1,if_pos (by omega),cmpN_gt (by omega)]
def RowOkR (l : List CellD) : Prop:=∀ c ∈ l,cellOk c = true ∧ cellR c
theorem keyL_cons (c : CellD) (l : List CellD) : keyL (c :: l) = keyC c ++ keyL l:=rfl
theorem keyL_cmp : ∀ {a b : List CellD},RowOkR a→RowOkR b→a.length = b.length→cmpN (keyL a) (keyL b) = rcmp a b
 | [],[],_,_,_=>rfl
 | [],_ :: _,_,_,h=>by simp at h
 | _ :: _,[],_,_,h=>by simp at h
 | x :: a,y :: b,ha,hb,h=>by
  have h1:=ha x (List.mem_cons_self ..)
  have h2:=hb y (List.mem_cons_self ..)
  rw [keyL_cons,keyL_cons,keyC_cmp h1.1 h2.1 h1.2 h2.2]
  have ih:=keyL_cmp (a:=a) (b:=b) (fun c hc=>ha c (List.mem_cons_of_mem _ hc)) (fun c hc=>hb c (List.mem_cons_of_mem _ hc)) (by simpa using h)
  rw [ih]
  rfl
theorem rcmp_zero : ∀ {a b : List CellD},rcmp a b = 0 ↔ a = b
 | [],[]=>by simp [rcmp]
 | [],_ :: _=>by simp [rcmp]
 | _ :: _,[]=>by simp [rcmp]
 | x :: a,y :: b=>by
  unfold rcmp
  by_cases h : x.cmp y = 0
  ·rw [if_pos h,rcmp_zero (a:=a) (b:=b)]
   have:=(CellD.cmp_zero x y).1 h
   subst this
   simp
  ·rw [if_neg h]
   have hne : x ≠ y:=fun e=>h ((CellD.cmp_zero x y).2 e)
   simp [h,hne]
theorem beN_lt : ∀ (i n : Nat),∀ x ∈ beN i n,x < 256
 | 0,_=>fun x hx=>by cases hx
 | i + 1,n=>fun x hx=>by
  rcases List.mem_cons.1 hx with rfl | hx
  ·exact Nat.mod_lt _ (by omega)
  ·exact beN_lt i n x hx
theorem escB_lt : ∀ {l : List Nat},(∀ x ∈ l,x < 256)→∀ x ∈ escB l,x < 256
 | [],_=>fun x hx=>by cases hx
 | c :: l,h=>fun x hx=>by
  have ih:=escB_lt (l:=l) fun z hz=>h z (List.mem_cons_of_mem _ hz)
  rw [escB_cons] at hx
  split at hx
  ·rcases List.mem_cons.1 hx with rfl | hx
   ·omega
   ·rcases List.mem_cons.1 hx with rfl | hx
    ·omega
    ·exact ih x hx
  ·rcases List.mem_cons.1 hx with rfl | hx
   ·exact h _ (List.mem_cons_self ..)
   ·exact ih x hx
theorem keyC_lt {c : CellD} (h : cellOk c = true) : ∀ x ∈ keyC c,x < 256:=by
 rw [keyC_eq h]
 intro x hx
 have hk:=cellOk_k h
 rcases List.mem_cons.1 hx with rfl | hx
 ·omega
 ·unfold keyR at hx
  split at hx
  ·exact beN_lt _ _ x hx
  ·split at hx
   ·rw [List.mem_singleton] at hx; omega
   ·split at hx
    ·rcases List.mem_append.1 hx with hx | hx
     ·exact escB_lt (bytesN_lt _) x hx
     ·simp at hx; omega
    ·cases hx
theorem keyL_lt {l : List CellD} (h : RowOkR l) : ∀ x ∈ keyL l,x < 256:=by
 intro x hx
 unfold keyL at hx
 obtain ⟨s,hs,hx⟩:=List.mem_flatten.1 hx
 obtain ⟨c,hc,rfl⟩:=List.mem_map.1 hs
 exact keyC_lt (h c hc).1 x hx
theorem keyS_cmp {a b : List CellD} (ha : RowOkR a) (hb : RowOkR b) (h : a.length = b.length) : compareBytes (bytesB (keyS a)) (bytesB (keyS b)) = rcmp a b:=by
 have e : ∀ l,bytesB (keyS l) = (keyL l).map UInt8.ofNat:=fun l=>by unfold bytesB keyS strB; simp
 rw [e,e,cmpN_of (keyL_lt ha) (keyL_lt hb),keyL_cmp ha hb h]
theorem keyS_inj {a b : List CellD} (ha : RowOkR a) (hb : RowOkR b) (h : a.length = b.length) (e : keyS a = keyS b) : a = b:=by
 rw [← rcmp_zero,← keyS_cmp ha hb h,e]
 exact (cb_zero _ _).2 rfl
theorem le_cb {a b : List UInt8} : a ≤ b ↔ compareBytes a b ≤ 0:=by
 have h1:=bytesLess_eq b a
 have h2:=bytesLess_cmp b a
 rw [h1] at h2
 have h3 : (b < a) ↔ compareBytes b a < 0:=decide_eq_decide.1 h2
 have h4:=cb_anti a b
 rw [← List.not_lt,h3]
 omega
/-- Groups in order: their rows rise. -/
theorem rise {gs qs : List GD} {n : Nat} (hq : qs.Perm gs) (hs : qs.map (fun x=>bytesB (keyS x.1)) = sortedT (gs.map fun x=>keyS x.1)) (hnd : (gs.map fun x=>keyS x.1).Nodup) (hok : ∀ x ∈ gs,RowOkR x.1 ∧ x.1.length = n) :
  qs.Pairwise fun x y=>rcmp x.1 y.1 < 0:=by
 have h1 : (qs.map fun x=>bytesB (keyS x.1)).Pairwise (· ≤ ·):=by rw [hs]; exact sortedT_le _
 have h2 : (qs.map fun x=>keyS x.1).Nodup:=(hq.map _).nodup_iff.2 hnd
 rw [List.pairwise_map] at h1
 have h2 : qs.Pairwise fun x y=>keyS x.1 ≠ keyS y.1:=List.pairwise_map.1 h2
 refine ((h1.and h2).imp_of_mem fun {x y} hx hy h=>?_)
 obtain ⟨x1,x2⟩:=hok x (hq.mem_iff.1 hx)
 obtain ⟨y1,y2⟩:=hok y (hq.mem_iff.1 hy)
 have hc:=keyS_cmp x1 y1 (by omega)
 have h3:=le_cb.1 h.1
 rw [hc] at h3
 have h4 : rcmp x.1 y.1 ≠ 0:=fun e=>h.2 (by rw [rcmp_zero.1 e])
 omega
end Go.Proofs.Ytgklcfnjahomjaa.Sh
