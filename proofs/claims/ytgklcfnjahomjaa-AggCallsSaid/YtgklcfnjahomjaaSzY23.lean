/- What is told of rows, as the document tells it ('ref20.Told'): all keys. -/
import Derived.Test.YtgklcfnjahomjaaSzY22
set_option linter.unusedVariables false
set_option linter.unusedSimpArgs false
set_option maxRecDepth 100000
namespace Go.Proofs.Ytgklcfnjahomjaa.Sh
open Go Go.RowKit Go.Proofs.Ev
theorem bzY23 : type_of% (And.intro @ld3 (And.intro @ld2 (And.intro @ld9 (And.intro @ld37 (And.intro @ld28 (And.intro @ld42 (And.intro @ld34 (And.intro @ld22 (And.intro @ld24 (And.intro @ld23 (And.intro @ld29 (And.intro @fa37_0 (And.intro @fa37_1 (And.intro @fa37_2 (And.intro @fa28_0 (And.intro @fa28_1 (And.intro @fa42_0 (And.intro @fa42_1 (And.intro @fa42_2 (And.intro @nilC (And.intro @ex2_0 (And.intro @ex2_1 (@Nat.add_zero))))))))))))))))))))))):=And.intro @ld3 (And.intro @ld2 (And.intro @ld9 (And.intro @ld37 (And.intro @ld28 (And.intro @ld42 (And.intro @ld34 (And.intro @ld22 (And.intro @ld24 (And.intro @ld23 (And.intro @ld29 (And.intro @fa37_0 (And.intro @fa37_1 (And.intro @fa37_2 (And.intro @fa28_0 (And.intro @fa28_1 (And.intro @fa42_0 (And.intro @fa42_1 (And.intro @fa42_2 (And.intro @nilC (And.intro @ex2_0 (And.intro @ex2_1 (@Nat.add_zero))))))))))))))))))))))
theorem insAt_mem {ks : List (List CellD)} {key x : List CellD} (h : x ∈ insAt ks key) : x = key ∨ x ∈ ks:=by
 unfold insAt at h
 split at h
 ·rcases List.mem_append.1 h with h | h
  ·exact .inr (List.mem_of_mem_take h)
  ·rcases List.mem_cons.1 h with h | h
   ·exact .inl h
   ·exact .inr (List.mem_of_mem_drop h)
 ·exact .inr h
theorem insAt_len (ks : List (List CellD)) (key : List CellD) : (insAt ks key).length ≤ ks.length + 1:=by
 have hp:=posK_le ks key ks.length
 unfold insAt
 split
 ·simp only [List.length_append,List.length_take,List.length_cons,List.length_drop]; omega
 ·omega
structure KFit (m n : Nat) (ks : List (List CellD)) : Prop where
 len : ks.length ≤ n + 1
 row : ∀ x ∈ ks,x.length ≤ m
theorem KFit.add {m n : Nat} {ks : List (List CellD)} (h : KFit m n ks) {key : List CellD} (hk : key.length ≤ m) : KFit m (n + 1) (insAt ks key) :=
 ⟨by have:=insAt_len ks key; have:=h.len; omega,fun x hx=>(insAt_mem hx).elim (fun e=>e ▸ hk) (h.row x)⟩
theorem owns_one {n0 : Nat} {h0 h : AH} {L : List (Nat × AO)} {O : List OS} {ks : RS} (S : Stt Try.prog n0 h0 h L (owns ks ++ O)) : ∀ p ∈ ks,oneCell p.1 = true:=fun p hp=>by
 have:=ownRow S (w:=p.1) (r:=p.2) (List.mem_append.2 (.inl (List.mem_map.2 ⟨p,hp,rfl⟩)))
 exact SlZ.one this
theorem ins_rs (ks : RS) (pv : Value) (key : List CellD) (n : Nat) (hn : n = posK (rowsOf ks) key ks.length) (hb : newK (rowsOf ks) key n = true) : rowsOf (ks.take n ++ (pv,key) :: ks.drop n) = insAt (rowsOf ks) key:=by
 subst hn
 unfold insAt
 rw [rowsOf_len,if_pos hb]
 unfold rowsOf
 rw [List.map_append,List.map_cons,List.map_take,List.map_drop]
section
variable {β : Type} {Q : β→Prop} {h0 : AH}
theorem f25_row {k : Nat} {h : AH} {rv bv av kv x25 : Value} {rows : List (List CellD)} {by_ : List Int} {i : Nat} {row : List CellD} {ks : RS} (S : Stt Try.prog h0.n h0 h [] ((kv,1,outs ks) :: owns ks)) (R : Rows h0 rv rows) (B : IntsZ h0 bv by_)
  (hrow : rows[i]? = some row) (hb : by_.length ≤ 20) (hf : KFit 20 i (rowsOf ks)) (hi : i ≤ 100) {kn : Value→Value→Value→Value→Value→Value→Value→Value→AH→Option β}
  (hk : ∀ h' kv' ks' y1 y2 y3,rowsOf ks' = insAt (rowsOf ks) (pickL row by_)→Stt Try.prog h0.n h0 h' [] ((kv',1,outs ks') :: owns ks')→Tl (kn rv bv av kv' (.int .i64 i) y1 y2 y3 h') Q) :
  Tl (F25_lrllrlrrr (eInv env (k + 1010)) (k + 1010) rv bv av kv (.int .i64 i) x25 h kn) Q:=by
 obtain ⟨b,o,w,hp,hc0,C0⟩:=R.at_ hrow
 have hc:=S.grow.cell hc0
 have hpl : (pickL row by_).length = by_.length:=by unfold pickL; simp
 have hkl:=hf.len
 rw [rowsOf_len] at hkl
 simp only [F25_lrllrlrrr]
 repeat (first | (with_reducible apply qzV; simp (disch:=omega) only [coreA,Int.reduceBEq,bzY23,hp,hc] <;> with_reducible rfl) | (with_reducible first | apply qzT | apply qzF | apply qzG | apply qzH) | ((with_reducible first | apply qzB | apply qzC | apply qzD); simp (disch:=omega) only [coreA,Int.reduceBEq,bzY23,hp,hc] <;> with_reducible rfl))
 refine Tl.bind (f15c (k:=k + 1009) (C0.grow S.grow) (B.grow S.grow) (by omega) (by omega)) ?_
 rintro ⟨pv,h1⟩ S1'
 simp only at S1'
 have S1 : Stt Try.prog h0.n h0 h1 [] ((pv,3,(pickL row by_).map crow) :: (kv,1,outs ks) :: owns ks):=S.join S1'
 have K1 : Rows h1 kv (rowsOf ks):=rowsOut (O:=[]) (by rw [List.append_nil]; exact S1.dropO)
 have P1 : Cells h1 pv (pickL row by_):=(S1.slV 0 rfl).z
 have hlen : ∀ h',pLen Try.prog #[23] kv h' = some (.int .i64 ks.length):=fun h'=>by have:=K1.len (h':=h'); rwa [rowsOf_len] at this
 have hrl : ∀ x ∈ rowsOf ks,x.length ≤ 1000:=fun x hx=>by have:=hf.row x hx; omega
 repeat (first | (with_reducible apply qzV; simp (disch:=omega) only [coreA,Int.reduceBEq,bzY23,hlen] <;> with_reducible rfl) | (with_reducible first | apply qzT | apply qzF | apply qzG | apply qzH) | ((with_reducible first | apply qzB | apply qzC | apply qzD); simp (disch:=omega) only [coreA,Int.reduceBEq,bzY23,hlen] <;> with_reducible rfl))
 refine f25_pos (k:=k + 1007) K1 P1 hrl (by omega) (by omega) (by rw [rowsOf_len]; omega) ks.length (Grow.refl _) (by rw [rowsOf_len]; omega) (by omega) fun h2 y g2=>?_
 have hpk:=posK_le (rowsOf ks) (pickL row by_) ks.length
 refine f25_11 (k:=k + 1007) (K1.grow g2) (P1.grow g2) hrl (by omega) (by omega) (by rw [rowsOf_len]; omega) (by rw [rowsOf_len]; exact hpk) fun h3 g3=>?_
 have S3:=S1.call (g2.trans g3)
 cases q : newK (rowsOf ks) (pickL row by_) (posK (rowsOf ks) (pickL row by_) ks.length) with
 | false =>
  refine Tl.brF ?_
  refine hk _ _ ks _ _ _ ?_ S3.dropO
  unfold insAt
  rw [rowsOf_len,if_neg (by rw [q]; simp)]
 | true =>
  refine Tl.brT ?_
  have hone:=owns_one (O:=[]) (ks:=ks) (by rw [List.append_nil]; exact S3.dropO.dropO)
  obtain ⟨pa,pc,pe,_⟩:=(P1.form)
  refine f25_12 (S3.slV 1 rfl) (S3.szV 1 rfl) hone ⟨_,_,_,pe⟩ hpk (by omega) fun v h4 S4'=>?_
  have S4:=S3.join S4'
  refine hk _ _ (ks.take (posK (rowsOf ks) (pickL row by_) ks.length) ++ (pv,pickL row by_) :: ks.drop (posK (rowsOf ks) (pickL row by_) ks.length)) _ _ _ (ins_rs ks pv _ _ rfl q) ?_
  generalize posK (rowsOf ks) (pickL row by_) ks.length = n at S4 ⊢
  have hks : ks = ks.take n ++ ks.drop n:=(List.take_append_drop n ks).symm
  have S5:=S4.permO (O':=(kv,1,outs ks) :: (v,1,outs (ks.take n) ++ [[pv]] ++ outs (ks.drop n)) :: (pv,3,(pickL row by_).map crow) :: owns ks) (perm_of fun f g z0 hc hap=>by simp only [z0,hc,hap]; omega)
  have S6:=S5.dropO
  have eo : outs (ks.take n ++ (pv,pickL row by_) :: ks.drop n) = outs (ks.take n) ++ [[pv]] ++ outs (ks.drop n):=by unfold outs; simp
  rw [eo]
  refine S6.permO (.cons _ ?_)
  have ew : owns ks = owns (ks.take n) ++ owns (ks.drop n):=by
   unfold owns
   rw [← List.map_append,List.take_append_drop]
  rw [ew]
  unfold owns
  rw [List.map_append,List.map_cons]
  exact perm_of fun f g z0 hc hap=>by simp only [z0,hc,hap]; omega
theorem f25_keys {k : Nat} {rv bv av : Value} {rows : List (List CellD)} {by_ : List Int} {init : List (List CellD)} (R : Rows h0 rv rows) (B : IntsZ h0 bv by_) (hb : by_.length ≤ 20) (hl : rows.length ≤ 100)
  {ke0 : Value→Value→Value→Value→Value→Value→AH→Option β} (n : Nat) :
  ∀ {i j : Nat} {h : AH} {kv : Value} {ks : RS},i + n = rows.length→n < j→rowsOf ks = (rows.take i).foldl (fun ks r=>insAt ks (pickL r by_)) init→KFit 20 i (rowsOf ks)→Stt Try.prog h0.n h0 h [] ((kv,1,outs ks) :: owns ks) →
   (∀ h' kv ks y1 y2,rowsOf ks = rows.foldl (fun ks r=>insAt ks (pickL r by_)) init→KFit 20 rows.length (rowsOf ks)→Stt Try.prog h0.n h0 h' [] ((kv,1,outs ks) :: owns ks)→Tl (ke0 rv bv av kv y1 y2 h') Q) →
   Tl (F25_lrlrrr (eInv env (k + 1010)) (k + 1010) j rv bv av kv (.int .i64 i) h ke0) Q:=by
 have hv : ∀ h',pLen Try.prog #[23] rv h' = some (.int .i64 rows.length):=fun h'=>R.len
 induction n with
 | zero =>
  intro i j h kv ks hi hj hks hf S hk
  obtain ⟨j,rfl⟩ : ∃ q,j = q + 1:=⟨j - 1,by omega⟩
  simp only [F25_lrlrrr]
  repeat (first | (with_reducible apply qzV; simp (disch:=omega) only [coreA,Int.reduceBEq,bzY23,hv] <;> with_reducible rfl) | (with_reducible first | apply qzT | apply qzF | apply qzG | apply qzH) | ((with_reducible first | apply qzB | apply qzC | apply qzD); simp (disch:=omega) only [coreA,Int.reduceBEq,bzY23,hv] <;> with_reducible rfl))
  have : i = rows.length:=by omega
  subst this
  rw [List.take_length] at hks
  exact hk _ _ ks _ _ hks hf S
 | succ n ih =>
  intro i j h kv ks hi hj hks hf S hk
  obtain ⟨j,rfl⟩ : ∃ q,j = q + 1:=⟨j - 1,by omega⟩
  have e : (i : Int) + 1 = ((i + 1 : Nat) : Int):=by omega
  obtain ⟨row,er⟩ : ∃ x,rows[i]? = some x:=⟨_,List.getElem?_eq_getElem (by omega)⟩
  simp only [F25_lrlrrr]
  repeat (first | (with_reducible apply qzV; simp (disch:=omega) only [coreA,Int.reduceBEq,bzY23,hv] <;> with_reducible rfl) | (with_reducible first | apply qzT | apply qzF | apply qzG | apply qzH) | ((with_reducible first | apply qzB | apply qzC | apply qzD); simp (disch:=omega) only [coreA,Int.reduceBEq,bzY23,hv] <;> with_reducible rfl))
  refine f25_row (k:=k) S R B er hb hf (by omega) fun h' kv' ks' y1 y2 y3 hks' S'=>?_
  repeat (first | (with_reducible apply qzV; simp (disch:=omega) only [coreA,Int.reduceBEq,bzY23] <;> with_reducible rfl) | (with_reducible first | apply qzT | apply qzF | apply qzG | apply qzH) | ((with_reducible first | apply qzB | apply qzC | apply qzD); simp (disch:=omega) only [coreA,Int.reduceBEq,bzY23] <;> with_reducible rfl))
  rw [e]
  refine ih (ks:=ks') (by omega) (by omega) ?_ ?_ S' hk
  ·rw [hks',hks,List.take_add_one,er,List.foldl_append]
   rfl
  ·rw [hks']
   exact hf.add (by unfold pickL; simpa using hb)
end
end Go.Proofs.Ytgklcfnjahomjaa.Sh
