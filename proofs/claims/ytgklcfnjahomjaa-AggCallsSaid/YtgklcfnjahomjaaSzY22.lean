/- What is told of rows, as the document tells it ('ref20.Told'): the keys. -/
import Derived.Test.YtgklcfnjahomjaaSzY21
set_option linter.unusedVariables false
set_option linter.unusedSimpArgs false
set_option maxRecDepth 100000
namespace Go.Proofs.Ytgklcfnjahomjaa.Sh
open Go Go.RowKit Go.Proofs.Ev
theorem bzY22 : type_of% (And.intro @ld3 (And.intro @ld2 (And.intro @ld9 (And.intro @ld37 (And.intro @ld28 (And.intro @ld42 (And.intro @ld34 (And.intro @ld22 (And.intro @ld24 (And.intro @ld23 (And.intro @ld29 (And.intro @fa37_0 (And.intro @fa37_1 (And.intro @fa37_2 (And.intro @fa28_0 (And.intro @fa28_1 (And.intro @fa42_0 (And.intro @fa42_1 (And.intro @fa42_2 (And.intro @nilC (And.intro @ex2_0 (And.intro @ex2_1 (@Nat.add_zero))))))))))))))))))))))):=And.intro @ld3 (And.intro @ld2 (And.intro @ld9 (And.intro @ld37 (And.intro @ld28 (And.intro @ld42 (And.intro @ld34 (And.intro @ld22 (And.intro @ld24 (And.intro @ld23 (And.intro @ld29 (And.intro @fa37_0 (And.intro @fa37_1 (And.intro @fa37_2 (And.intro @fa28_0 (And.intro @fa28_1 (And.intro @fa42_0 (And.intro @fa42_1 (And.intro @fa42_2 (And.intro @nilC (And.intro @ex2_0 (And.intro @ex2_1 (@Nat.add_zero))))))))))))))))))))))
def keyAt (ks : List (List CellD)) (k : Nat) : List CellD:=(ks[k]?).getD []
theorem keyAt_of {ks : List (List CellD)} {k : Nat} {x : List CellD} (h : ks[k]? = some x) : keyAt ks k = x:=by unfold keyAt; rw [h]; rfl
/-- Where a key belongs. -/
def posK (ks : List (List CellD)) (key : List CellD) : Nat→Nat
 | 0=>0
 | k + 1=>if rcmp (keyAt ks k) key > 0 then posK ks key k else k + 1
theorem posK_le (ks : List (List CellD)) (key : List CellD) : ∀ n,posK ks key n ≤ n
 | 0=>Nat.le_refl _
 | n + 1=>by
  unfold posK
  split
  ·exact Nat.le_succ_of_le (posK_le ks key n)
  ·exact Nat.le_refl _
def newK (ks : List (List CellD)) (key : List CellD) (k : Nat) : Bool:=decide (k = 0) || decide (rcmp (keyAt ks (k - 1)) key ≠ 0)
def insAt (ks : List (List CellD)) (key : List CellD) : List (List CellD) :=
 if newK ks key (posK ks key ks.length) then ks.take (posK ks key ks.length) ++ key :: ks.drop (posK ks key ks.length) else ks
def keysL (by_ : List Int) (rows : List (List CellD)) : List (List CellD):=rows.foldl (fun ks r=>insAt ks (pickL r by_)) (if by_ = [] then [[]] else [])
theorem bsR0 (h : AH) : pBuildSlice Try.prog 23 0 #[] h = some (.slice (some ⟨h.n,0,none⟩) 0 0,h.alloc (.cells [] 34 true)):=by kernel_rfl
section
variable {β : Type} {Q : β→Prop}
theorem f25_pos {k kf : Nat} {h0 : AH} {x0 x1 x2 x8 kv pv : Value} {ks : List (List CellD)} {key : List CellD} (K : Rows h0 kv ks) (P : Cells h0 pv key) (hl : ∀ x ∈ ks,x.length ≤ 1000) (hl2 : key.length ≤ 1000) (hk : 1000 < k) (hks : ks.length ≤ 1000)
  {ke2 : Value→Value→Value→Value→Value→Value→Value→Value→AH→Option β} : ∀ (n : Nat) {j : Nat} {h : AH},Grow h0 h→n ≤ ks.length→n < j →
   (∀ h' y,Grow h0 h'→Tl (ke2 x0 x1 x2 kv x8 pv (.int .i64 (posK ks key n : Nat)) y h') Q)→Tl (F25_llrrllrllrlrrr (eInv env (k + 3)) kf j x0 x1 x2 kv x8 pv (.int .i64 n) h ke2) Q
 | 0,j,h,g,hn,hj,hk2=>by
  obtain ⟨j,rfl⟩ : ∃ q,j = q + 1:=⟨j - 1,by omega⟩
  simp only [F25_llrrllrllrlrrr,G25_9]
  repeat (first | (with_reducible apply qzV; simp (disch:=omega) only [coreA,Int.reduceBEq,bzY22] <;> with_reducible rfl) | (with_reducible first | apply qzT | apply qzF | apply qzG | apply qzH) | ((with_reducible first | apply qzB | apply qzC | apply qzD); simp (disch:=omega) only [coreA,Int.reduceBEq,bzY22] <;> with_reducible rfl))
  exact hk2 _ _ g
 | n + 1,j,h,g,hn,hj,hk2=>by
  obtain ⟨j,rfl⟩ : ∃ q,j = q + 1:=⟨j - 1,by omega⟩
  obtain ⟨x,ex⟩ : ∃ x,ks[n]? = some x:=⟨_,List.getElem?_eq_getElem (by omega)⟩
  obtain ⟨b,o,w,hp,hc0,C0⟩:=K.at_ ex
  have hc:=g.cell hc0
  have en : ((n + 1 : Nat) : Int) - 1 = (n : Int):=by omega
  have hp : pIndexAddr Try.prog 23 kv (.int .i64 (((n + 1 : Nat) : Int) - 1)) = some (.pointer (some ⟨b,o,none⟩)):=by rw [en]; exact hp
  have hx:=hl x (List.mem_of_getElem? ex)
  have ea:=keyAt_of ex
  unfold posK at hk2
  rw [ea] at hk2
  simp only [F25_llrrllrllrlrrr,G25_9]
  repeat (first | (with_reducible apply qzV; simp (disch:=omega) only [coreA,Int.reduceBEq,bzY22,hp,hc] <;> with_reducible rfl) | (with_reducible first | apply qzT | apply qzF | apply qzG | apply qzH) | ((with_reducible first | apply qzB | apply qzC | apply qzD); simp (disch:=omega) only [coreA,Int.reduceBEq,bzY22,hp,hc] <;> with_reducible rfl))
  refine Tl.bind (f13c (k:=k) (C0.grow g) (P.grow g) (by omega) (by omega) (by omega)) ?_
  rintro ⟨r,h1⟩ ⟨er,g1⟩
  simp only at er g1
  subst er
  by_cases q : rcmp x key > 0
  ·rw [if_pos q] at hk2
   repeat (first | (with_reducible apply qzV; simp (disch:=omega) only [coreA,Int.reduceBEq,bzY22] <;> with_reducible rfl) | (with_reducible first | apply qzT | apply qzF | apply qzG | apply qzH) | ((with_reducible first | apply qzB | apply qzC | apply qzD); simp (disch:=omega) only [coreA,Int.reduceBEq,bzY22] <;> with_reducible rfl))
   rw [en]
   exact f25_pos K P hl hl2 hk hks n (g.trans g1) (by omega) (by omega) hk2
  ·rw [if_neg q] at hk2
   repeat (first | (with_reducible apply qzV; simp (disch:=omega) only [coreA,Int.reduceBEq,bzY22] <;> with_reducible rfl) | (with_reducible first | apply qzT | apply qzF | apply qzG | apply qzH) | ((with_reducible first | apply qzB | apply qzC | apply qzD); simp (disch:=omega) only [coreA,Int.reduceBEq,bzY22] <;> with_reducible rfl))
   exact hk2 _ _ (g.trans g1)
theorem f25_11 {k : Nat} {h : AH} {x0 x1 x2 x8 kv pv : Value} {ks : List (List CellD)} {key : List CellD} {n : Nat} (K : Rows h kv ks) (P : Cells h pv key) (hl : ∀ x ∈ ks,x.length ≤ 1000) (hl2 : key.length ≤ 1000) (hk : 1000 < k) (hks : ks.length ≤ 1000) (hn : n ≤ ks.length)
  {C : Value→AH→Option β} (hc : ∀ h',Grow h h'→Tl (C (.bool (newK ks key n)) h') Q) : Tl (G25_11 (eInv env (k + 3)) x0 x1 x2 kv x8 pv (.int .i64 n) h C) Q:=by
 simp only [G25_11]
 rcases Nat.eq_zero_or_pos n with q | q
 ·subst q
  repeat (first | (with_reducible apply qzV; simp (disch:=omega) only [coreA,Int.reduceBEq,bzY22] <;> with_reducible rfl) | (with_reducible first | apply qzT | apply qzF | apply qzG | apply qzH) | ((with_reducible first | apply qzB | apply qzC | apply qzD); simp (disch:=omega) only [coreA,Int.reduceBEq,bzY22] <;> with_reducible rfl))
  exact hc _ (Grow.refl _)
 ·obtain ⟨m,rfl⟩ : ∃ m,n = m + 1:=⟨n - 1,by omega⟩
  obtain ⟨x,ex⟩ : ∃ x,ks[m]? = some x:=⟨_,List.getElem?_eq_getElem (by omega)⟩
  obtain ⟨b,o,w,hp,hcl,C0⟩:=K.at_ ex
  have en : ((m + 1 : Nat) : Int) - 1 = (m : Int):=by omega
  have hp : pIndexAddr Try.prog 23 kv (.int .i64 (((m + 1 : Nat) : Int) - 1)) = some (.pointer (some ⟨b,o,none⟩)):=by rw [en]; exact hp
  have hx:=hl x (List.mem_of_getElem? ex)
  have en2 : newK ks key (m + 1) = (rcmp x key != 0):=by
   unfold newK
   rw [Nat.add_sub_cancel,keyAt_of ex]
   simp [bne]
   rfl
  rw [en2] at hc
  repeat (first | (with_reducible apply qzV; simp (disch:=omega) only [coreA,Int.reduceBEq,bzY22,hp,hcl] <;> with_reducible rfl) | (with_reducible first | apply qzT | apply qzF | apply qzG | apply qzH) | ((with_reducible first | apply qzB | apply qzC | apply qzD); simp (disch:=omega) only [coreA,Int.reduceBEq,bzY22,hp,hcl] <;> with_reducible rfl))
  refine Tl.bind (f13c (k:=k) C0 P (by omega) (by omega) (by omega)) ?_
  rintro ⟨r,h1⟩ ⟨er,g1⟩
  simp only at er g1
  subst er
  repeat (first | (with_reducible apply qzV; simp (disch:=omega) only [coreA,Int.reduceBEq,bzY22] <;> with_reducible rfl) | (with_reducible first | apply qzT | apply qzF | apply qzG | apply qzH) | ((with_reducible first | apply qzB | apply qzC | apply qzD); simp (disch:=omega) only [coreA,Int.reduceBEq,bzY22] <;> with_reducible rfl))
  exact hc _ g1
theorem one_outs : ∀ (l : RS),(∀ p ∈ l,oneCell p.1 = true)→(outs l).flatten.all oneCell = true
 | [],_=>rfl
 | x :: l,hl=>by
  have ih:=one_outs l fun p hp=>hl p (List.mem_cons_of_mem _ hp)
  unfold outs at *
  simp only [List.map_cons,List.flatten_cons,List.all_append,ih,List.all_cons,List.all_nil,hl x (List.mem_cons_self ..)]
  rfl
theorem f25_12 {inv : Inv} {h : AH} {x0 x1 x2 x8 kv pv : Value} {ks : RS} {n : Nat} (K : SlV Try.prog h kv 1 (outs ks)) (Z : SzV Try.prog h kv 1) (hone : ∀ p ∈ ks,oneCell p.1 = true) (hp : ∃ a l c,pv = .slice a l c) (hn : n ≤ ks.length) (hks : ks.length ≤ 1000)
  {C : Value→AH→Option β} (hc : ∀ v h',Stt Try.prog h.n h h' [] [(v,1,outs (ks.take n) ++ [[pv]] ++ outs (ks.drop n))]→Tl (C v h') Q) : Tl (G25_12 inv x0 x1 x2 kv x8 pv (.int .i64 n) h C) Q:=by
 obtain ⟨a,l,c,rfl⟩:=hp
 have hol : n ≤ (outs ks).length:=by rw [outs_len]; exact hn
 obtain ⟨tv,ht,T,hts⟩:=SlZ.take K.z u23 sz34 (k:=.i64) hol
 obtain ⟨dv,hd,D⟩:=K.dropK Z u23 sz34 (k:=.i64) hol
 have hds:=slV_same D
 have et : (outs ks).take n = outs (ks.take n):=by unfold outs; rw [List.map_take]
 have ed : (outs ks).drop n = outs (ks.drop n):=by unfold outs; rw [List.map_drop]
 rw [et] at T
 rw [ed] at D
 have o1:=one_outs (ks.take n) fun p hp=>hone p (List.mem_of_mem_take hp)
 have o2:=one_outs (ks.drop n) fun p hp=>hone p (List.mem_of_mem_drop hp)
 simp only [G25_12]
 rw [bsR0,bnd_some]
 have S1:=sttZ (e:=34) (n:=1) (Stt.init h) sz34
 have hd0:=hd h (Grow.refl _)
 have hd1:=hd _ S1.grow
 generalize hg1 : h.alloc (.cells [] 34 true) = h1 at S1 hd1 ⊢
 rw [bs23,bnd_some]
 have S2:=S1.alloc (.cells [.slice a l c] 34 true)
 have hd2:=hd _ S2.grow
 generalize hg2 : h1.alloc (.cells [.slice a l c] 34 true) = h2 at S2 hd2 ⊢
 repeat (first | (with_reducible apply qzV; simp (disch:=omega) only [coreA,Int.reduceBEq,bzY22,ht] <;> with_reducible rfl) | (with_reducible first | apply qzT | apply qzF | apply qzG | apply qzH) | ((with_reducible first | apply qzB | apply qzC | apply qzD); simp (disch:=omega) only [coreA,Int.reduceBEq,bzY22,ht] <;> with_reducible rfl))
 obtain ⟨v3,h3,e3,S3⟩:=S2.appendZ 0 rfl app23 (T.grow S2.grow) (by rw [outs_len,List.length_take]; simp; omega) o1
 have hd3:=hd _ S3.grow
 rw [e3,bnd_some]
 obtain ⟨v4,h4,e4,S4⟩:=S3.appendZ 0 rfl app23 (S3.lit 0 rfl rfl).z (by rw [List.nil_append,outs_len,List.length_take]; simp; omega) rfl
 have hd4:=hd _ S4.grow
 repeat (first | (with_reducible apply qzV; simp (disch:=omega) only [coreA,Int.reduceBEq,bzY22,e4] <;> with_reducible rfl) | (with_reducible first | apply qzT | apply qzF | apply qzG | apply qzH) | ((with_reducible first | apply qzB | apply qzC | apply qzD); simp (disch:=omega) only [coreA,Int.reduceBEq,bzY22,e4] <;> with_reducible rfl))
 obtain ⟨v5,h5,e5,S5⟩:=S4.appendZ 0 rfl app23 (D.grow S4.grow).z (by rw [List.length_append,List.nil_append,outs_len,outs_len,List.length_take,List.length_drop]; simp; omega) o2
 repeat (first | (with_reducible apply qzV; simp (disch:=omega) only [coreA,Int.reduceBEq,bzY22,hd4,e5] <;> with_reducible rfl) | (with_reducible first | apply qzT | apply qzF | apply qzG | apply qzH) | ((with_reducible first | apply qzB | apply qzC | apply qzD); simp (disch:=omega) only [coreA,Int.reduceBEq,bzY22,hd4,e5] <;> with_reducible rfl))
 simp only [ht,hd0,hd1,hd2,hd3,hd4,sameO_some,hts,hds,Bool.and_self,Bool.not_true,Bool.false_or,chkK_t]
 exact hc _ _ S5.drop
end
end Go.Proofs.Ytgklcfnjahomjaa.Sh
