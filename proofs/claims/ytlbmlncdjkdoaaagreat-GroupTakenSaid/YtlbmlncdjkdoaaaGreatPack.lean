/- Bits, bytes, numbers of so many bits, as one great number. No program in sight. -/
import Derived.Test.YtlbmlncdjkdoaaaGreatBits
set_option linter.unusedVariables false
set_option linter.unusedSimpArgs false
namespace Go.Proofs.Ev
open Go
/-- Bytes as one number, the first one lowest. -/
def byN (l : List Nat) : Nat:=l.foldr (fun x a=>a * 256 + x) 0
theorem byN_cons (x : Nat) (l : List Nat) : byN (x :: l) = byN l * 256 + x:=rfl
theorem byN_lt : ∀ (l : List Nat),(∀ x ∈ l,x < 256)→byN l < 256 ^ l.length:=by
 intro l
 induction l with
 | nil=>intro _; simp [byN]
 | cons x l ih =>
  intro h
  have h1:=ih fun y hy=>h y (by simp [hy])
  have h2:=h x (by simp)
  rw [byN_cons,List.length_cons,Nat.pow_succ]
  omega
theorem byN_snoc : ∀ (l : List Nat) (x : Nat),byN (l ++ [x]) = byN l + x * 256 ^ l.length:=by
 intro l
 induction l with
 | nil=>intro x; simp [byN]
 | cons y l ih =>
  intro x
  rw [List.cons_append,byN_cons,ih,byN_cons,List.length_cons,Nat.pow_succ,Nat.add_mul,← Nat.mul_assoc]
  omega
theorem byN_inj : ∀ (l m : List Nat),(∀ x ∈ l,x < 256)→(∀ x ∈ m,x < 256)→l.length = m.length→byN l = byN m→l = m:=by
 intro l
 induction l with
 | nil=>intro m _ _ h _; exact (List.length_eq_zero_iff.1 h.symm).symm
 | cons x l ih =>
  intro m hl hm h e
  cases m with
  | nil=>simp at h
  | cons y m =>
   rw [byN_cons,byN_cons] at e
   have h1:=hl x (by simp)
   have h2:=hm y (by simp)
   have e1 : x = y:=by omega
   have e2 : byN l = byN m:=by omega
   rw [e1,ih m (fun z hz=>hl z (by simp [hz])) (fun z hz=>hm z (by simp [hz])) (by simpa using h) e2]
/-- Bits as one number. -/
def valB (l : List Nat) : Nat:=l.foldr (fun b a=>b + 2 * a) 0
theorem valB_cons (b : Nat) (l : List Nat) : valB (b :: l) = b + 2 * valB l:=rfl
theorem valB_append : ∀ (l m : List Nat),valB (l ++ m) = valB l + 2 ^ l.length * valB m:=by
 intro l
 induction l with
 | nil=>intro m; simp [valB]
 | cons b l ih =>
  intro m
  rw [List.cons_append,valB_cons,ih,valB_cons,List.length_cons,Nat.pow_succ,Nat.mul_add,Nat.mul_comm (2 ^ l.length) 2,Nat.mul_assoc]
  omega
def bitsN : Nat→Nat→List Nat
 | 0,_=>[]
 | w + 1,v=>v % 2 :: bitsN w (v / 2)
theorem bitsN_len (w : Nat) : ∀ v,(bitsN w v).length = w:=by
 induction w with
 | zero=>intro v; rfl
 | succ w ih=>intro v; simp [bitsN,ih]
theorem bitsN_lt (w : Nat) : ∀ v,∀ b ∈ bitsN w v,b < 2:=by
 induction w with
 | zero=>intro v b hb; cases hb
 | succ w ih =>
  intro v b hb
  rcases List.mem_cons.1 hb with rfl | hb
  ·exact Nat.mod_lt _ (by decide)
  ·exact ih _ b hb
theorem valB_bits (w : Nat) : ∀ v,valB (bitsN w v) = v % 2 ^ w:=by
 induction w with
 | zero=>intro v; simp [bitsN,valB,Nat.mod_one]
 | succ w ih =>
  intro v
  have : bitsN (w + 1) v = v % 2 :: bitsN w (v / 2):=rfl
  rw [this,valB_cons,ih,Nat.pow_succ,Nat.mul_comm (2 ^ w) 2,Nat.mod_mul]
/-- Numbers of so many bits as one number. -/
def woN (w : Nat) (l : List Nat) : Nat:=l.foldr (fun x a=>x % 2 ^ w + 2 ^ w * a) 0
theorem woN_cons (w x : Nat) (l : List Nat) : woN w (x :: l) = x % 2 ^ w + 2 ^ w * woN w l:=rfl
theorem valB_all (w : Nat) : ∀ (l : List Nat),valB (l.flatMap (bitsN w)) = woN w l:=by
 intro l
 induction l with
 | nil=>rfl
 | cons x l ih=>rw [List.flatMap_cons,valB_append,valB_bits,bitsN_len,ih,woN_cons]
theorem woN_lt (w : Nat) : ∀ (l : List Nat),woN w l < 2 ^ (l.length * w):=by
 intro l
 induction l with
 | nil=>simp [woN]
 | cons x l ih =>
  have hm : x % 2 ^ w < 2 ^ w:=Nat.mod_lt _ (Nat.two_pow_pos w)
  rw [woN_cons,List.length_cons,Nat.succ_mul,Nat.add_comm (l.length * w) w,Nat.pow_add]
  have : 2 ^ w * (woN w l + 1) ≤ 2 ^ w * 2 ^ (l.length * w):=Nat.mul_le_mul_left _ ih
  rw [Nat.mul_add] at this
  omega
/-- A number of a row is its digit. -/
theorem woN_digit (w : Nat) : ∀ (l : List Nat) (i x : Nat),l[i]? = some x→woN w l / 2 ^ (i * w) % 2 ^ w = x % 2 ^ w:=by
 intro l
 induction l with
 | nil=>intro i x h; simp at h
 | cons y l ih =>
  intro i x h
  have hm : y % 2 ^ w < 2 ^ w:=Nat.mod_lt _ (Nat.two_pow_pos w)
  cases i with
  | zero =>
   simp at h
   subst h
   rw [woN_cons,Nat.zero_mul,Nat.pow_zero,Nat.div_one,Nat.add_mul_mod_self_left,Nat.mod_mod]
  | succ i =>
   have:=ih i x (by simpa using h)
   rw [woN_cons,Nat.succ_mul,Nat.add_comm (i * w) w,Nat.pow_add,← Nat.div_div_eq_div_mul,Nat.add_mul_div_left _ _ (Nat.two_pow_pos w),Nat.div_eq_of_lt hm,Nat.zero_add]
   exact this
/-- Digits make the number. -/
def digs (w N : Nat) (n : Nat) : List Nat:=(List.range n).map fun i=>N / 2 ^ (i * w) % 2 ^ w
theorem digs_len (w N n : Nat) : (digs w N n).length = n:=by simp [digs]
theorem digs_lt (w N n : Nat) : ∀ x ∈ digs w N n,x < 2 ^ w:=by
 intro x hx
 simp only [digs,List.mem_map] at hx
 obtain ⟨i,_,rfl⟩:=hx
 exact Nat.mod_lt _ (Nat.two_pow_pos w)
theorem digs_succ (w N n : Nat) : digs w N (n + 1) = N % 2 ^ w :: digs w (N / 2 ^ w) n:=by
 unfold digs
 rw [List.range_succ_eq_map,List.map_cons,List.map_map]
 simp only [Nat.zero_mul,Nat.pow_zero,Nat.div_one]
 congr 1
 refine List.map_congr_left fun i _=>?_
 simp only [Function.comp]
 rw [Nat.succ_mul,Nat.add_comm (i * w) w,Nat.pow_add,← Nat.div_div_eq_div_mul]
theorem woN_digs (w : Nat) : ∀ (n N : Nat),N < 2 ^ (n * w)→woN w (digs w N n) = N:=by
 intro n
 induction n with
 | zero=>intro N h; simp at h; subst h; rfl
 | succ n ih =>
  intro N h
  have hd : N / 2 ^ w < 2 ^ (n * w):=by
   rw [Nat.succ_mul,Nat.pow_add] at h
   exact Nat.div_lt_of_lt_mul (by rw [Nat.mul_comm]; exact h)
  rw [digs_succ,woN_cons,ih _ hd,Nat.mod_mod]
  exact Nat.mod_add_div N (2 ^ w)
theorem digs_woN (w : Nat) (l : List Nat) (h : ∀ x ∈ l,x < 2 ^ w) : digs w (woN w l) l.length = l:=by
 refine List.ext_getElem? fun i=>?_
 by_cases hi : i < l.length
 ·obtain ⟨x,hx⟩ : ∃ x,l[i]? = some x:=⟨_,List.getElem?_eq_getElem hi⟩
  have:=woN_digit w l i x hx
  rw [hx]
  unfold digs
  rw [List.getElem?_map,List.getElem?_range hi,Option.map_some,this,Nat.mod_eq_of_lt (h x (List.mem_of_getElem? hx))]
 ·rw [List.getElem?_eq_none (by rw [digs_len]; omega),List.getElem?_eq_none (by omega)]
/-! ### The machine that packs -/
structure PN where
 out : List Nat
 held : Nat
 n : Nat
def bitN (s : PN) (b : Nat) : PN:=if s.n = 7 then ⟨s.out ++ [s.held + b * 2 ^ s.n],0,0⟩ else ⟨s.out,s.held + b * 2 ^ s.n,s.n + 1⟩
structure PNOk (s : PN) (V k : Nat) : Prop where
 val : byN s.out + 256 ^ s.out.length * s.held = V
 cnt : 8 * s.out.length + s.n = k
 small : s.held < 2 ^ s.n
 n8 : s.n < 8
 bytes : ∀ x ∈ s.out,x < 256
theorem bitN_ok {s : PN} {V k b : Nat} (S : PNOk s V k) (hb : b < 2) : PNOk (bitN s b) (V + b * 2 ^ k) (k + 1):=by
 obtain ⟨v,c,hs,h8,hby⟩:=S
 have hp : (2 : Nat) ^ k = 256 ^ s.out.length * 2 ^ s.n:=by
  have h256 : (256 : Nat) = 2 ^ 8:=by decide
  rw [h256,← Nat.pow_mul,← Nat.pow_add,c]
 have hnew : s.held + b * 2 ^ s.n < 2 ^ (s.n + 1):=by
  have : b * 2 ^ s.n ≤ 1 * 2 ^ s.n:=Nat.mul_le_mul_right _ (by omega)
  rw [Nat.pow_succ]; omega
 have hsum : 256 ^ s.out.length * (s.held + b * 2 ^ s.n) = 256 ^ s.out.length * s.held + b * 2 ^ k:=by
  rw [hp,Nat.mul_add]
  congr 1
  rw [Nat.mul_left_comm]
 unfold bitN
 by_cases q : s.n = 7
 ·rw [if_pos q]
  refine ⟨?_,?_,by simp,by simp,?_⟩
  ·simp only [Nat.mul_zero,Nat.add_zero]
   rw [byN_snoc,Nat.mul_comm (s.held + b * 2 ^ s.n),hsum,← v]
   omega
  ·simp; omega
  ·intro x hx
   rcases List.mem_append.1 hx with hx | hx
   ·exact hby x hx
   ·simp at hx
    subst hx
    rw [q] at hnew ⊢
    simpa using hnew
 ·rw [if_neg q]
  refine ⟨?_,?_,hnew,by simp only; omega,hby⟩
  ·simp only
   rw [hsum,← v]
   omega
  ·simp only; omega
theorem foldN_ok : ∀ (S : List Nat) {s : PN} {V k : Nat},(∀ b ∈ S,b < 2)→PNOk s V k→PNOk (S.foldl bitN s) (V + 2 ^ k * valB S) (k + S.length):=by
 intro S
 induction S with
 | nil=>intro s V k _ h; simpa [valB] using h
 | cons b S ih =>
  intro s V k hb h
  have h1:=ih (fun x hx=>hb x (by simp [hx])) (bitN_ok h (hb b (by simp)))
  rw [List.foldl_cons,List.length_cons,valB_cons]
  have e1 : V + b * 2 ^ k + 2 ^ (k + 1) * valB S = V + 2 ^ k * (b + 2 * valB S):=by
   rw [Nat.mul_add,Nat.pow_succ,Nat.mul_comm b,Nat.mul_assoc]
   omega
  have e2 : k + 1 + S.length = k + (S.length + 1):=by omega
  rw [e1,e2] at h1
  exact h1
def putN (w : Nat) (l : List Nat) : List Nat:=let s:=(l.flatMap (bitsN w)).foldl bitN ⟨[],0,0⟩; if s.n > 0 then s.out ++ [s.held] else s.out
theorem flat_bits_lt (w : Nat) (l : List Nat) : ∀ b ∈ l.flatMap (bitsN w),b < 2:=by
 intro b hb
 obtain ⟨x,_,hx⟩:=List.mem_flatMap.1 hb
 exact bitsN_lt w x b hx
theorem flat_bits_len (w : Nat) : ∀ (l : List Nat),(l.flatMap (bitsN w)).length = l.length * w:=by
 intro l
 induction l with
 | nil=>simp
 | cons v l ih=>rw [List.flatMap_cons,List.length_append,ih,bitsN_len,List.length_cons,Nat.succ_mul,Nat.add_comm]
/-- What is packed, as one number. -/
theorem putN_spec (w : Nat) (l : List Nat) : byN (putN w l) = woN w l ∧ (putN w l).length = (l.length * w + 7) / 8 ∧ ∀ x ∈ putN w l,x < 256:=by
 have S:=foldN_ok (l.flatMap (bitsN w)) (s:=⟨[],0,0⟩) (V:=0) (k:=0) (flat_bits_lt w l) ⟨by simp [byN],by simp,by simp,by simp,fun x hx=>by cases hx⟩
 rw [valB_all,flat_bits_len,Nat.pow_zero,Nat.one_mul,Nat.zero_add,Nat.zero_add] at S
 unfold putN
 generalize (l.flatMap (bitsN w)).foldl bitN ⟨[],0,0⟩ = s at S
 obtain ⟨v,c,hs,h8,hby⟩:=S
 simp only
 by_cases q : s.n > 0
 ·rw [if_pos q]
  refine ⟨?_,by simp; omega,?_⟩
  ·rw [byN_snoc,Nat.mul_comm,v]
  ·intro x hx
   rcases List.mem_append.1 hx with hx | hx
   ·exact hby x hx
   ·simp at hx
    subst hx
    have : 2 ^ s.n ≤ 2 ^ 7:=Nat.pow_le_pow_right (by decide) (by omega)
    have h7 : (2 : Nat) ^ 7 = 128:=by decide
    omega
 ·rw [if_neg q]
  have n0 : s.n = 0:=by omega
  rw [n0] at hs
  have h0 : s.held = 0:=by simpa using hs
  refine ⟨by rw [← v,h0]; simp,by omega,hby⟩
end Go.Proofs.Ev
