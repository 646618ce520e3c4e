/- The key of a cell, of a row: 'value.key', 'value.Key'. -/
import Derived.Test.YtgklcfnjahomjaaSzVf
import Derived.Test.YtgklcfnjahomjaaSzBs
set_option linter.unusedVariables false
set_option linter.unusedSimpArgs false
set_option maxRecDepth 100000
namespace Go.Proofs.Ytgklcfnjahomjaa.Sh
open Go Go.RowKit Go.Proofs.Ev
theorem bzY1 : type_of% (And.intro @ld3 (And.intro @ld2 (And.intro @ld9 (And.intro @ld5 (And.intro @ld37 (And.intro @fa37_0 (And.intro @fa37_1 (And.intro @fa37_2 (And.intro (fun a h=>conv_int (a:=a) (h:=h) u3 u5) (And.intro (fun a h=>conv_int (a:=a) (h:=h) u2 u5) (And.intro (fun a h=>conv_int (a:=a) (h:=h) u123 u5) (And.intro (fun a h=>conv_int (a:=a) (h:=h) u2 u123) (@Nat.add_zero))))))))))))):=And.intro @ld3 (And.intro @ld2 (And.intro @ld9 (And.intro @ld5 (And.intro @ld37 (And.intro @fa37_0 (And.intro @fa37_1 (And.intro @fa37_2 (And.intro (fun a h=>conv_int (a:=a) (h:=h) u3 u5) (And.intro (fun a h=>conv_int (a:=a) (h:=h) u2 u5) (And.intro (fun a h=>conv_int (a:=a) (h:=h) u123 u5) (And.intro (fun a h=>conv_int (a:=a) (h:=h) u2 u123) (@Nat.add_zero))))))))))))
def beN : Nat→Nat→List Nat
 | 0,_=>[]
 | i + 1,n=>(n / 2 ^ (8 * i) % 256) :: beN i n
theorem beN_len : ∀ i n,(beN i n).length = i
 | 0,_=>rfl
 | i + 1,n=>by rw [beN,List.length_cons,beN_len i n]
def escB : List Nat→List Nat
 | []=>[]
 | c :: l=>if c = 0 then 0 :: 255 :: escB l else c :: escB l
theorem escB_len : ∀ l,(escB l).length ≤ 2 * l.length
 | []=>Nat.zero_le _
 | c :: l=>by
  have:=escB_len l
  unfold escB
  split <;> simp only [List.length_cons] <;> omega
/-- The number of an int, its sign turned. -/
def keyI (i : Int) : Nat:=(i + 9223372036854775808).toNat
def keyC (c : CellD) : List Nat :=
 if c.k = 1 then 1 :: beN 8 (keyI c.i) else if c.k = 2 then [2,c.i.toNat] else if c.k = 3 then 3 :: (escB (bytesN c.s) ++ [0,0]) else [0]
def keyL (l : List CellD) : List Nat:=(l.map keyC).flatten
def keyS (l : List CellD) : ByteArray:=strB (keyL l)
theorem keyC_len {c : CellD} (h : cellOk c = true) : (keyC c).length ≤ 515:=by
 unfold keyC
 split
 ·rw [List.length_cons,beN_len]; omega
 ·split
  ·simp
  ·split
   ·rename_i h3
    have hs : c.s.size ≤ 256:=by
     unfold cellOk at h
     rw [if_neg (by omega),if_neg (by omega),if_neg (by omega),if_pos h3] at h
     simp at h; exact h.2
    have:=escB_len (bytesN c.s)
    rw [bytesN_len] at this
    simp only [List.length_cons,List.length_append,List.length_nil]
    omega
   ·simp
theorem xor_top (x : Nat) (hx : x < 18446744073709551616) : x ^^^ 9223372036854775808 = if x < 9223372036854775808 then x + 9223372036854775808 else x - 9223372036854775808:=by
 have key : ∀ y : Nat,y < 2 ^ 63→(2 ^ 63 + y) ^^^ 2 ^ 63 = y:=by
  intro y hy
  apply Nat.eq_of_testBit_eq
  intro j
  rw [Nat.testBit_xor,Nat.testBit_two_pow]
  rcases Nat.lt_trichotomy j 63 with q | q | q
  ·rw [Nat.testBit_two_pow_add_gt q]
   have : decide (63 = j) = false:=by simp; omega
   rw [this,Bool.xor_false]
  ·subst q
   rw [Nat.testBit_two_pow_add_eq,Nat.testBit_lt_two_pow hy]
   rfl
  ·have h1 : (2 ^ 63 + y).testBit j = false:=Nat.testBit_lt_two_pow (by
    have : (2 : Nat) ^ 64 ≤ 2 ^ j:=Nat.pow_le_pow_right (by omega) q
    have e : (2 : Nat) ^ 64 = 2 ^ 63 + 2 ^ 63:=by decide
    omega)
   have h2 : y.testBit j = false:=Nat.testBit_lt_two_pow (by
    have : (2 : Nat) ^ 63 ≤ 2 ^ j:=Nat.pow_le_pow_right (by omega) (by omega)
    omega)
   have : decide (63 = j) = false:=by simp; omega
   rw [h1,h2,this]
   rfl
 have e63 : (9223372036854775808 : Nat) = 2 ^ 63:=by decide
 have e64 : (18446744073709551616 : Nat) = 2 ^ 63 + 2 ^ 63:=by decide
 rw [e64] at hx
 rw [e63]
 split
 ·rename_i h
  have:=key x h
  have h2 : (2 ^ 63 + x) ^^^ 2 ^ 63 ^^^ 2 ^ 63 = x ^^^ 2 ^ 63:=by rw [this]
  rw [Nat.xor_assoc,Nat.xor_self,Nat.xor_zero] at h2
  rw [← h2,Nat.add_comm]
 ·rename_i h
  obtain ⟨y,rfl⟩ : ∃ y,x = 2 ^ 63 + y:=⟨x - 2 ^ 63,by omega⟩
  rw [key y (by omega),Nat.add_sub_cancel_left]
theorem xorK {x y : Operand} (i : Int) (hi : -9223372036854775808 ≤ i ∧ i ≤ 9223372036854775807) : pBin Try.prog .xor 123 x y (.int .u64 (IntKind.u64.wrap i)) (.int .u64 9223372036854775808) = some (.int .u64 (keyI i : Int)):=by
 rw [xor64u]
 congr 2
 have h1 : IntKind.u64.wrap i = ((i % 18446744073709551616).toNat : Int):=by rw [wrap_u64]; omega
 rw [h1]
 have h2 : (BitVec.ofInt 64 (((i % 18446744073709551616).toNat : Nat) : Int) ^^^ BitVec.ofInt 64 9223372036854775808).toNat = keyI i:=by
  rw [BitVec.toNat_xor,BitVec.toNat_ofInt,BitVec.toNat_ofInt]
  have e1 : (((((i % 18446744073709551616).toNat : Nat) : Int)) % ((2 ^ 64 : Nat) : Int)).toNat = (i % 18446744073709551616).toNat:=by
   have : ((2 ^ 64 : Nat) : Int) = 18446744073709551616:=by decide
   rw [this]; omega
  have e2 : ((9223372036854775808 : Int) % ((2 ^ 64 : Nat) : Int)).toNat = 9223372036854775808:=by decide
  rw [e1,e2,xor_top _ (by omega)]
  unfold keyI
  split <;> omega
 rw [h2,wrap_u64]
 unfold keyI
 omega
theorem shrB (x i : Nat) (hi : i < 8) : ∀ t a b,pBin Try.prog Go.BinOp.shr t a b (.int .u64 (x : Int)) (.int .i64 (8 * (i : Int))) = some (.int .u64 ((x / 2 ^ (8 * i) : Nat) : Int)):=fun t a b=>by
 rw [shr_nn (by omega)]
 have e1 : min ((8 * (i : Int))).toNat IntKind.u64.bits = 8 * i:=by
  have : IntKind.u64.bits = 64:=rfl
  rw [this]; omega
 rw [e1,Int.fdiv_eq_ediv_of_nonneg _ (by exact_mod_cast Nat.zero_le _)]
 simp
theorem u8rows_app (l m : List Nat) : u8rows l ++ u8rows m = u8rows (l ++ m):=by unfold u8rows; rw [List.map_append]
theorem f71_int {β : Type} {k : Nat} {Q : β→Prop} {n0 : Nat} {h0 : AH} {L : List (Nat × AO)} {O : List OS} {x : Nat} {ke1 : Value→Value→Value→Value→AH→Option β} (i : Nat) :
  ∀ {j : Nat} {h : AH} {v : Value} {l : List Nat},i ≤ 8→i < j→l.length + i ≤ 2 ^ 30→Stt Try.prog n0 h0 h L ((v,1,u8rows l) :: O) →
   (∀ h' v' y6 y,Stt Try.prog n0 h0 h' L ((v',1,u8rows (l ++ beN i x)) :: O)→Tl (ke1 v' (.int .u64 x) y6 y h') Q) →
   Tl (F71_lrrlrlrlrr (eInv env k) k j v (.int .u64 (x : Int)) (.int .i64 ((i : Int) - 1)) h ke1) Q:=by
 induction i with
 | zero =>
  intro j h v l hi hj hl S hk
  obtain ⟨j,rfl⟩ : ∃ q,j = q + 1:=⟨j - 1,by omega⟩
  simp only [F71_lrrlrlrlrr]
  repeat (first | (with_reducible apply qzV; simp (disch:=omega) only [coreA,Int.reduceBEq,bzY1] <;> with_reducible rfl) | (with_reducible first | apply qzT | apply qzF | apply qzG | apply qzH) | ((with_reducible first | apply qzB | apply qzC | apply qzD); simp (disch:=omega) only [coreA,Int.reduceBEq,bzY1] <;> with_reducible rfl))
  exact hk _ _ _ _ (by simpa [beN] using S)
 | succ i ih =>
  intro j h v l hi hj hl S hk
  obtain ⟨j,rfl⟩ : ∃ q,j = q + 1:=⟨j - 1,by omega⟩
  have e : (((i + 1 : Nat) : Int)) - 1 = (i : Int):=by omega
  rw [e]
  have sh:=shrB x i (by omega)
  have w8 : IntKind.u8.wrap ((x / 2 ^ (8 * i) : Nat) : Int) = ((x / 2 ^ (8 * i) % 256 : Nat) : Int):=by rw [wrap_u8]; omega
  have wm : IntKind.i64.wrap (8 * (i : Int)) = 8 * (i : Int):=wr_i64 (by omega)
  simp only [F71_lrrlrlrlrr]
  repeat (first | (with_reducible apply qzV; simp (disch:=omega) only [coreA,Int.reduceBEq,bzY1,wm,sh,w8] <;> with_reducible rfl) | (with_reducible first | apply qzT | apply qzF | apply qzG | apply qzH) | ((with_reducible first | apply qzB | apply qzC | apply qzD); simp (disch:=omega) only [coreA,Int.reduceBEq,bzY1,wm,sh,w8] <;> with_reducible rfl))
  refine Tl.push S 0 rfl app107 (bs107 _ _) rfl rfl (by rw [u8rows_len]; omega) fun v' h' S'=>?_
  have S' : Stt Try.prog n0 h0 h' L ((v',1,u8rows (l ++ [x / 2 ^ (8 * i) % 256])) :: O):=by rw [← u8rows_app]; exact S'
  have wd : IntKind.i64.wrap ((i : Int) - 1) = (i : Int) - 1:=wr_i64 (by omega)
  repeat (first | (with_reducible apply qzV; simp (disch:=omega) only [coreA,Int.reduceBEq,bzY1,wd] <;> with_reducible rfl) | (with_reducible first | apply qzT | apply qzF | apply qzG | apply qzH) | ((with_reducible first | apply qzB | apply qzC | apply qzD); simp (disch:=omega) only [coreA,Int.reduceBEq,bzY1,wd] <;> with_reducible rfl))
  refine ih (by omega) (by omega) (by simp; omega) S' fun h2 v2 y6 y S2=>hk _ _ _ _ ?_
  rw [beN]
  rw [List.append_assoc] at S2
  exact S2
theorem f71_text {β : Type} {k : Nat} {Q : β→Prop} {n0 : Nat} {h0 : AH} {L : List (Nat × AO)} {O : List OS} {w : Value} {t : List Nat} (ht : ∀ x ∈ t,x < 256) (ht2 : t.length ≤ 2 ^ 20) {ke3 : Value→Value→Value→Value→Value→AH→Option β} (n : Nat) :
  ∀ {i j : Nat} {h : AH} {v : Value} {l : List Nat},i + n = t.length→n < j→l.length + 2 * n ≤ 2 ^ 30→Stt Try.prog n0 h0 h L ((v,1,u8rows l) :: O)→(∀ h',Mem h' L→Bytes h' w t) →
   (∀ h' v' y1 y2 y3 y4,Stt Try.prog n0 h0 h' L ((v',1,u8rows (l ++ escB (t.drop i))) :: O)→Tl (ke3 v' y1 y2 y3 y4 h') Q) →
   Tl (F71_lrllrrrrrlrlrr (eInv env k) k j v w (.int .i64 t.length) (.int .i64 i) h ke3) Q:=by
 induction n with
 | zero =>
  intro i j h v l hi hj hl S hL hk
  obtain ⟨j,rfl⟩ : ∃ q,j = q + 1:=⟨j - 1,by omega⟩
  simp only [F71_lrllrrrrrlrlrr]
  repeat (first | (with_reducible apply qzV; simp (disch:=omega) only [coreA,Int.reduceBEq,bzY1] <;> with_reducible rfl) | (with_reducible first | apply qzT | apply qzF | apply qzG | apply qzH) | ((with_reducible first | apply qzB | apply qzC | apply qzD); simp (disch:=omega) only [coreA,Int.reduceBEq,bzY1] <;> with_reducible rfl))
  exact hk _ _ _ _ _ _ (by rw [List.drop_eq_nil_of_le (by omega)]; simpa [escB] using S)
 | succ n ih =>
  intro i j h v l hi hj hl S hL hk
  obtain ⟨j,rfl⟩ : ∃ q,j = q + 1:=⟨j - 1,by omega⟩
  obtain ⟨x,ex⟩ : ∃ x,t[i]? = some x:=⟨_,List.getElem?_eq_getElem (by omega)⟩
  obtain ⟨b,o,hp,hc0⟩:=(hL h S.sta.mem).at_ ex
  have hc:=hc0 h (Grow.refl _)
  have hx : x < 256:=ht x (List.mem_of_getElem? ex)
  have e : (i : Int) + 1 = ((i + 1 : Nat) : Int):=by omega
  have hdr:=drop_at ex
  simp only [F71_lrllrrrrrlrlrr,F71_lrrllrllrrrrrlrlrr]
  repeat (first | (with_reducible apply qzV; simp (disch:=omega) only [coreA,Int.reduceBEq,bzY1,hp,hc] <;> with_reducible rfl) | (with_reducible first | apply qzT | apply qzF | apply qzG | apply qzH) | ((with_reducible first | apply qzB | apply qzC | apply qzD); simp (disch:=omega) only [coreA,Int.reduceBEq,bzY1,hp,hc] <;> with_reducible rfl))
  refine Tl.push S 0 rfl app107 (bs107 _ _) rfl rfl (by rw [u8rows_len]; omega) fun v' h' S1=>?_
  have S1 : Stt Try.prog n0 h0 h' L ((v',1,u8rows (l ++ [x])) :: O):=by rw [← u8rows_app]; exact S1
  by_cases q : x = 0
  ·subst q
   repeat (first | (with_reducible apply qzV; simp (disch:=omega) only [coreA,Int.reduceBEq,bzY1] <;> with_reducible rfl) | (with_reducible first | apply qzT | apply qzF | apply qzG | apply qzH) | ((with_reducible first | apply qzB | apply qzC | apply qzD); simp (disch:=omega) only [coreA,Int.reduceBEq,bzY1] <;> with_reducible rfl))
   refine Tl.push S1 0 rfl app107 (bs107 _ _) rfl rfl (by rw [u8rows_len]; simp; omega) fun v2 h2 S2=>?_
   have S2 : Stt Try.prog n0 h0 h2 L ((v2,1,u8rows (l ++ [0] ++ [255])) :: O):=by rw [← u8rows_app]; exact S2
   repeat (first | (with_reducible apply qzV; simp (disch:=omega) only [coreA,Int.reduceBEq,bzY1] <;> with_reducible rfl) | (with_reducible first | apply qzT | apply qzF | apply qzG | apply qzH) | ((with_reducible first | apply qzB | apply qzC | apply qzD); simp (disch:=omega) only [coreA,Int.reduceBEq,bzY1] <;> with_reducible rfl))
   rw [e]
   refine ih (by omega) (by omega) (by simp; omega) S2 hL fun h' v' y1 y2 y3 y4 S3=>hk _ _ _ _ _ _ ?_
   rw [hdr,escB,if_pos rfl]
   simpa using S3
  ·have q' : ¬ (x : Int) = 0:=by omega
   have qq : ((x : Int) == 0) = false:=beq_f q'
   repeat (first | (with_reducible apply qzV; simp (disch:=omega) only [coreA,Int.reduceBEq,bzY1,qq] <;> with_reducible rfl) | (with_reducible first | apply qzT | apply qzF | apply qzG | apply qzH) | ((with_reducible first | apply qzB | apply qzC | apply qzD); simp (disch:=omega) only [coreA,Int.reduceBEq,bzY1,qq] <;> with_reducible rfl))
   rw [e]
   refine ih (by omega) (by omega) (by simp; omega) S1 hL fun h' v' y1 y2 y3 y4 S3=>hk _ _ _ _ _ _ ?_
   rw [hdr,escB,if_neg q]
   simpa using S3
theorem bytesS (s : ByteArray) (h : AH) : pBytes Try.prog 9 107 (.string s) h = some (.slice (some ⟨h.n,0,none⟩) s.size s.size,h.alloc (.cells (s.data.toList.map fun b=>.int .u8 b.toNat) 5 true)):=by kernel_rfl
theorem bytes_cells (s : ByteArray) : (s.data.toList.map fun b : UInt8=>(Value.int .u8 b.toNat)) = (u8rows (bytesN s)).flatten:=by
 rw [u8rows_flat]
 unfold bytesN
 rw [List.map_map]
 rfl
theorem bs2107 (a b : Int) (h : AH) : pBuildSlice Try.prog 107 2 #[(0,.int .u8 a),(1,.int .u8 b)] h = some (.slice (some ⟨h.n,0,none⟩) 2 2,h.alloc (.cells [.int .u8 a,.int .u8 b] 5 true)):=by kernel_rfl
theorem f71c {k : Nat} {n0 : Nat} {h0 h : AH} {L : List (Nat × AO)} {O : List OS} {v : Value} {l : List Nat} {c : CellD} (S : Stt Try.prog n0 h0 h L ((v,1,u8rows l) :: O)) (hc : cellOk c = true) (hr : cellR c) (hl : l.length ≤ 2 ^ 29) :
  Tl (eInv env (k + 600) (.func 71) #[] #[v,c.v] h) fun r=>Stt Try.prog n0 h0 r.2 L ((r.1,1,u8rows (l ++ keyC c)) :: O):=by
 rw [F71_call]
 unfold F71
 refine Tl.box' S rfl (by rw [sz37]; rfl) fun b1 h1 S1 _=>?_
 have c0 : h1.cell b1 0 = some (.int .i64 c.k):=S1.cell 0 rfl rfl
 have hk : c.k = 0 ∨ c.k = 1 ∨ c.k = 2 ∨ c.k = 3:=by
  unfold cellOk at hc
  by_cases q0 : c.k = 0
  ·exact .inl q0
  ·by_cases q1 : c.k = 1
   ·exact .inr (.inl q1)
   ·by_cases q2 : c.k = 2
    ·exact .inr (.inr (.inl q2))
    ·by_cases q3 : c.k = 3
     ·exact .inr (.inr (.inr q3))
     ·rw [if_neg q0,if_neg q1,if_neg q2,if_neg q3] at hc; cases hc
 have w8 : IntKind.u8.wrap c.k = ((c.k.toNat : Nat) : Int):=by rw [wr_u8 (by omega)]; omega
 repeat (first | (with_reducible apply qzV; simp (disch:=omega) only [coreA,Int.reduceBEq,bzY1,c0,w8] <;> with_reducible rfl) | (with_reducible first | apply qzT | apply qzF | apply qzG | apply qzH) | ((with_reducible first | apply qzB | apply qzC | apply qzD); simp (disch:=omega) only [coreA,Int.reduceBEq,bzY1,c0,w8] <;> with_reducible rfl))
 refine Tl.push S1 0 rfl app107 (bs107 _ _) rfl rfl (by rw [u8rows_len]; omega) fun v2 h2 S2=>?_
 have S2 : Stt Try.prog n0 h0 h2 ((b1,.cells (crow c) 37 true) :: L) ((v2,1,u8rows (l ++ [c.k.toNat])) :: O):=by rw [← u8rows_app]; exact S2
 have d0 : h2.cell b1 0 = some (.int .i64 c.k):=S2.cell 0 rfl rfl
 have d1 : h2.cell b1 1 = some (.int .i64 c.i):=S2.cell 0 rfl rfl
 have d2 : h2.cell b1 2 = some (.string c.s):=S2.cell 0 rfl rfl
 repeat (first | (with_reducible apply qzV; simp (disch:=omega) only [coreA,Int.reduceBEq,bzY1,d0] <;> with_reducible rfl) | (with_reducible first | apply qzT | apply qzF | apply qzG | apply qzH) | ((with_reducible first | apply qzB | apply qzC | apply qzD); simp (disch:=omega) only [coreA,Int.reduceBEq,bzY1,d0] <;> with_reducible rfl))
 unfold F71_rlrr
 rcases hk with q | q | q | q
 ·rw [q] at d0 S2 ⊢
  repeat (first | (with_reducible apply qzV; simp (disch:=omega) only [coreA,Int.reduceBEq,bzY1,d0] <;> with_reducible rfl) | (with_reducible first | apply qzT | apply qzF | apply qzG | apply qzH) | ((with_reducible first | apply qzB | apply qzC | apply qzD); simp (disch:=omega) only [coreA,Int.reduceBEq,bzY1,d0] <;> with_reducible rfl))
  refine ⟨_,rfl,?_⟩
  rw [show keyC c = [0] by simp [keyC,q]]
  exact S2.drop
 ·rw [q] at d0 S2 ⊢
  have xk:=fun x y=>xorK (x:=x) (y:=y) c.i hr
  repeat (first | (with_reducible apply qzV; simp (disch:=omega) only [coreA,Int.reduceBEq,bzY1,d0,d1,xk] <;> with_reducible rfl) | (with_reducible first | apply qzT | apply qzF | apply qzG | apply qzH) | ((with_reducible first | apply qzB | apply qzC | apply qzD); simp (disch:=omega) only [coreA,Int.reduceBEq,bzY1,d0,d1,xk] <;> with_reducible rfl))
  rw [show (Value.int .i64 7) = .int .i64 (((8 : Nat) : Int) - 1) from rfl]
  refine f71_int 8 (by omega) (by omega) (by simp; omega) S2 fun h' v' y6 y S3=>?_
  refine ⟨_,rfl,?_⟩
  have e : l ++ keyC c = l ++ [(1 : Int).toNat] ++ beN 8 (keyI c.i):=by simp [keyC,q]
  rw [e]
  exact S3.drop
 ·rw [q] at d0 S2 ⊢
  have wi : IntKind.u8.wrap c.i = ((c.i.toNat : Nat) : Int):=by
   unfold cellOk at hc
   rw [if_neg (by omega),if_neg (by omega),if_pos q] at hc
   simp at hc
   rcases hc.2 with h | h <;> rw [h] <;> rfl
  repeat (first | (with_reducible apply qzV; simp (disch:=omega) only [coreA,Int.reduceBEq,bzY1,d0,d1,wi] <;> with_reducible rfl) | (with_reducible first | apply qzT | apply qzF | apply qzG | apply qzH) | ((with_reducible first | apply qzB | apply qzC | apply qzD); simp (disch:=omega) only [coreA,Int.reduceBEq,bzY1,d0,d1,wi] <;> with_reducible rfl))
  refine Tl.push S2 0 rfl app107 (bs107 _ _) rfl rfl (by rw [u8rows_len]; simp; omega) fun v3 h3 S3=>?_
  have S3 : Stt Try.prog n0 h0 h3 ((b1,.cells (crow c) 37 true) :: L) ((v3,1,u8rows (l ++ [(2 : Int).toNat] ++ [c.i.toNat])) :: O):=by rw [← u8rows_app]; exact S3
  repeat (first | (with_reducible apply qzV; simp (disch:=omega) only [coreA,Int.reduceBEq,bzY1] <;> with_reducible rfl) | (with_reducible first | apply qzT | apply qzF | apply qzG | apply qzH) | ((with_reducible first | apply qzB | apply qzC | apply qzD); simp (disch:=omega) only [coreA,Int.reduceBEq,bzY1] <;> with_reducible rfl))
  refine ⟨_,rfl,?_⟩
  have e : l ++ keyC c = l ++ [(2 : Int).toNat] ++ [c.i.toNat]:=by simp [keyC,q]
  rw [e]
  exact S3.drop
 ·rw [q] at d0 S2 ⊢
  have hs : c.s.size ≤ 256:=by
   unfold cellOk at hc
   rw [if_neg (by omega),if_neg (by omega),if_neg (by omega),if_pos q] at hc
   simp at hc; exact hc.2
  have S3:=S2.alloc (.cells (c.s.data.toList.map fun b : UInt8=>(Value.int .u8 b.toNat)) 5 true)
  have hlen : ((u8rows (bytesN c.s)).flatten).length = c.s.size:=by rw [u8rows_flat,List.length_map,bytesN_len]
  have hB : ∀ h',Mem h' ((h2.n,AO.cells (c.s.data.toList.map fun b : UInt8=>(Value.int .u8 b.toNat)) 5 true) :: (b1,.cells (crow c) 37 true) :: L)→Bytes h' (.slice (some ⟨h2.n,0,none⟩) c.s.size c.s.size) (bytesN c.s):=by
   intro h' hm
   have e : c.s.size = (u8rows (bytesN c.s)).length:=by rw [u8rows_len,bytesN_len]
   refine .inr ⟨h2.n,0,c.s.size,true,by rw [← bytesN_len]; simp,by simp [bytesN_len],⟨⟨_,_,hm.at_ (i:=0) rfl,fun _=>⟨?_,?_⟩⟩,fun r hr=>?_⟩⟩
   ·rw [bytes_cells,hlen]; simp [bytesN_len]
   ·rw [bytes_cells,List.drop_zero,List.take_of_length_le (by rw [hlen]; simp [bytesN_len])]; rfl
   ·obtain ⟨x,_,rfl⟩:=List.mem_map.1 hr; rfl
  have hlen2 : ∀ h',pLen Try.prog #[107] (.slice (some ⟨h2.n,0,none⟩) c.s.size c.s.size) h' = some (.int .i64 (bytesN c.s).length):=fun h'=>by rw [bytesN_len]; exact len_slice u107
  repeat (first | (with_reducible apply qzV; simp (disch:=omega) only [coreA,Int.reduceBEq,bzY1,d0,d2,bytesS,hlen2] <;> with_reducible rfl) | (with_reducible first | apply qzT | apply qzF | apply qzG | apply qzH) | ((with_reducible first | apply qzB | apply qzC | apply qzD); simp (disch:=omega) only [coreA,Int.reduceBEq,bzY1,d0,d2,bytesS,hlen2] <;> with_reducible rfl))
  refine f71_text (t:=bytesN c.s) (bytesN_lt _) (by rw [bytesN_len]; omega) (bytesN c.s).length (i:=0) (by omega) (by rw [bytesN_len]; omega) (by simp [bytesN_len]; omega) S3 hB fun h' v' y1 y2 y3 y4 S4=>?_
  rw [List.drop_zero] at S4
  have S5:=S4.alloc (.cells [.int .u8 0,.int .u8 0] 5 true)
  have hx : SlV Try.prog (h'.alloc (.cells [.int .u8 0,.int .u8 0] 5 true)) (.slice (some ⟨h'.n,0,none⟩) 2 2) 1 (u8rows [0,0]):=by
   have:=S5.sub (n:=1) (rows:=u8rows [0,0]) (cap:=2) 0 rfl (fun r hr=>by obtain ⟨x,_,rfl⟩:=List.mem_map.1 hr; rfl) (by simp [u8rows]) (by simp [u8rows]) rfl
   exact this
  have hesc:=escB_len (bytesN c.s)
  rw [bytesN_len] at hesc
  repeat (first | (with_reducible apply qzV; simp (disch:=omega) only [coreA,Int.reduceBEq,bzY1,bs2107] <;> with_reducible rfl) | (with_reducible first | apply qzT | apply qzF | apply qzG | apply qzH) | ((with_reducible first | apply qzB | apply qzC | apply qzD); simp (disch:=omega) only [coreA,Int.reduceBEq,bzY1,bs2107] <;> with_reducible rfl))
  refine Tl.append' S5 0 rfl app107 hx rfl (by rw [u8rows_len]; simp [u8rows]; omega) fun v6 h6 S6=>?_
  have S7 : Stt Try.prog n0 h0 h6 L ((v6,1,u8rows (l ++ [(3 : Int).toNat] ++ escB (bytesN c.s) ++ [0,0])) :: O):=by rw [← u8rows_app]; exact S6.drop.drop.drop
  repeat (first | (with_reducible apply qzV; simp (disch:=omega) only [coreA,Int.reduceBEq,bzY1] <;> with_reducible rfl) | (with_reducible first | apply qzT | apply qzF | apply qzG | apply qzH) | ((with_reducible first | apply qzB | apply qzC | apply qzD); simp (disch:=omega) only [coreA,Int.reduceBEq,bzY1] <;> with_reducible rfl))
  refine ⟨_,rfl,?_⟩
  have e : l ++ keyC c = l ++ [(3 : Int).toNat] ++ escB (bytesN c.s) ++ [0,0]:=by simp [keyC,q]
  rw [e]
  exact S7
theorem f57_loop {β : Type} {k : Nat} {Q : β→Prop} {h0 : AH} {v : Value} {row : List CellD} (R : Cells h0 v row) (hok : ∀ c ∈ row,cellOk c = true ∧ cellR c) (hl : row.length ≤ 1000) {ke0 : Value→Value→Value→Value→Value→AH→Option β} {kr : Value→AH→Option β} (n : Nat) :
  ∀ {i j : Nat} {h : AH} {x3 : Value},i + n = row.length→n < j→Stt Try.prog h0.n h0 h [] [(x3,1,u8rows (keyL (row.take i)))] →
   (∀ h' v' y1 y2 y3 y4,Stt Try.prog h0.n h0 h' [] [(v',1,u8rows (keyL row))]→Tl (ke0 v' y1 y2 y3 y4 h') Q) →
   Tl (F57_lrlrr (eInv env (k + 601)) (k + 601) j x3 v (.int .i64 row.length) (.int .i64 i) h ke0 kr) Q:=by
 induction n with
 | zero =>
  intro i j h x3 hi hj S hk
  obtain ⟨j,rfl⟩ : ∃ q,j = q + 1:=⟨j - 1,by omega⟩
  simp only [F57_lrlrr]
  repeat (first | (with_reducible apply qzV; simp (disch:=omega) only [coreA,Int.reduceBEq,bzY1] <;> with_reducible rfl) | (with_reducible first | apply qzT | apply qzF | apply qzG | apply qzH) | ((with_reducible first | apply qzB | apply qzC | apply qzD); simp (disch:=omega) only [coreA,Int.reduceBEq,bzY1] <;> with_reducible rfl))
  exact hk _ _ _ _ _ _ (by rw [List.take_of_length_le (by omega)] at S; exact S)
 | succ n ih =>
  intro i j h x3 hi hj S hk
  obtain ⟨j,rfl⟩ : ∃ q,j = q + 1:=⟨j - 1,by omega⟩
  obtain ⟨x,ex⟩ : ∃ x,row[i]? = some x:=⟨_,List.getElem?_eq_getElem (by omega)⟩
  obtain ⟨b,o,hp,hrow⟩:=(R.grow S.grow).at_ ex
  obtain ⟨hx1,hx2⟩:=hok x (List.mem_of_getElem? ex)
  have e : (i : Int) + 1 = ((i + 1 : Nat) : Int):=by omega
  simp only [F57_lrlrr]
  repeat (first | (with_reducible apply qzV; simp (disch:=omega) only [coreA,Int.reduceBEq,bzY1,hp,hrow] <;> with_reducible rfl) | (with_reducible first | apply qzT | apply qzF | apply qzG | apply qzH) | ((with_reducible first | apply qzB | apply qzC | apply qzD); simp (disch:=omega) only [coreA,Int.reduceBEq,bzY1,hp,hrow] <;> with_reducible rfl))
  refine Tl.alloc' S ze37 (by rfl) fun b1 h1 S1 g1=>?_
  refine Tl.store' S1 0 rfl sz37 rfl rfl (by simp [Value.cells,crow,oneCell]) fun h2 S2 k2=>?_
  have S2 : Stt Try.prog h0.n h0 h2 [(b1,.cells (crow x) 37 true)] [(x3,1,u8rows (keyL (row.take i)))]:=S2
  have r3 : h2.row b1 0 3 = some (crow x):=S2.row 0 rfl rfl
  repeat (first | (with_reducible apply qzV; simp (disch:=omega) only [coreA,Int.reduceBEq,bzY1,r3] <;> with_reducible rfl) | (with_reducible first | apply qzT | apply qzF | apply qzG | apply qzH) | ((with_reducible first | apply qzB | apply qzC | apply qzD); simp (disch:=omega) only [coreA,Int.reduceBEq,bzY1,r3] <;> with_reducible rfl))
  refine Tl.call' S2 (f70c (k:=k + 600) x hx2 h2) fun h3 S3 _=>?_
  rw [if_pos hx1]
  have r4 : h3.row b1 0 3 = some (crow x):=S3.row 0 rfl rfl
  repeat (first | (with_reducible apply qzV; simp (disch:=omega) only [coreA,Int.reduceBEq,bzY1,r4] <;> with_reducible rfl) | (with_reducible first | apply qzT | apply qzF | apply qzG | apply qzH) | ((with_reducible first | apply qzB | apply qzC | apply qzD); simp (disch:=omega) only [coreA,Int.reduceBEq,bzY1,r4] <;> with_reducible rfl))
  have hkl : (keyL (row.take i)).length ≤ 515 * i:=by
   have : ∀ m : List CellD,(∀ c ∈ m,cellOk c = true)→(keyL m).length ≤ 515 * m.length:=by
    intro m hm
    induction m with
    | nil=>simp [keyL]
    | cons a m ih =>
     have h1:=keyC_len (hm a (List.mem_cons_self ..))
     have h2:=ih fun c hc=>hm c (List.mem_cons_of_mem _ hc)
     unfold keyL at h2 ⊢
     simp only [List.map_cons,List.flatten_cons,List.length_append,List.length_cons]
     omega
   have h1:=this (row.take i) fun c hc=>(hok c (List.mem_of_mem_take hc)).1
   rw [List.length_take] at h1
   omega
  refine Tl.bind (f71c (k:=k + 1) S3 hx1 hx2 (by omega)) fun r S4=>?_
  obtain ⟨v4,h4⟩:=r
  simp only at S4
  have ek : keyL (row.take i) ++ keyC x = keyL (row.take (i + 1)):=by
   rw [List.take_add_one,ex]
   unfold keyL
   rw [List.map_append,List.flatten_append]
   simp
  rw [ek] at S4
  repeat (first | (with_reducible apply qzV; simp (disch:=omega) only [coreA,Int.reduceBEq,bzY1] <;> with_reducible rfl) | (with_reducible first | apply qzT | apply qzF | apply qzG | apply qzH) | ((with_reducible first | apply qzB | apply qzC | apply qzD); simp (disch:=omega) only [coreA,Int.reduceBEq,bzY1] <;> with_reducible rfl))
  rw [e]
  exact ih (by omega) (by omega) S4.drop hk
/-- 'Key'. -/
theorem f57c {k : Nat} {h : AH} {v : Value} {row : List CellD} (R : Cells h v row) (hok : ∀ c ∈ row,cellOk c = true ∧ cellR c) (hl : row.length ≤ 600) : Tl (eInv env (k + 602) (.func 57) #[] #[v] h) fun r=>r.1 = .string (keyS row) ∧ Grow h r.2:=by
 rw [F57_call]
 unfold F57
 have hv : ∀ h',pLen Try.prog #[34] v h' = some (.int .i64 row.length):=fun h'=>R.len
 repeat (first | (with_reducible apply qzV; simp (disch:=omega) only [coreA,Int.reduceBEq,bzY1,hv] <;> with_reducible rfl) | (with_reducible first | apply qzT | apply qzF | apply qzG | apply qzH) | ((with_reducible first | apply qzB | apply qzC | apply qzD); simp (disch:=omega) only [coreA,Int.reduceBEq,bzY1,hv] <;> with_reducible rfl))
 refine f57_loop R hok (by omega) row.length (i:=0) (by omega) (by omega) ((Stt.init h).nil 1) fun h' v' y1 y2 y3 y4 S=>?_
 have hB : Bytes h' v' (keyL row):=S.slV 0 rfl
 have hcv:=convB hB
 repeat (first | (with_reducible apply qzV; simp (disch:=omega) only [coreA,Int.reduceBEq,bzY1,hcv] <;> with_reducible rfl) | (with_reducible first | apply qzT | apply qzF | apply qzG | apply qzH) | ((with_reducible first | apply qzB | apply qzC | apply qzD); simp (disch:=omega) only [coreA,Int.reduceBEq,bzY1,hcv] <;> with_reducible rfl))
 exact ⟨_,rfl,rfl,S.grow⟩
end Go.Proofs.Ytgklcfnjahomjaa.Sh
