/- Aggregates of rows: the code's 'New' and 'Of'. -/
import Derived.Test.YtgklcfnjahomjaaSzY8
set_option linter.unusedVariables false
set_option linter.unusedSimpArgs false
set_option maxRecDepth 100000
namespace Go.Proofs.Ytgklcfnjahomjaa.Sh
open Go Go.RowKit Go.Proofs.Ev
theorem bzY9 : type_of% (And.intro @ld3 (And.intro @ld2 (And.intro @ld9 (And.intro @ld37 (And.intro @ld28 (And.intro @ld42 (And.intro @ld34 (And.intro @ld22 (And.intro @ld24 (And.intro @ld23 (And.intro @ld77 (And.intro @ld81 (And.intro @ld29 (And.intro @ld67 (And.intro @ld70 (And.intro @fa37_0 (And.intro @fa37_1 (And.intro @fa37_2 (And.intro @fa28_0 (And.intro @fa28_1 (And.intro @fa42_0 (And.intro @fa42_1 (And.intro @fa42_2 (And.intro @fa79_0 (And.intro @fa79_1 (And.intro @fa69_0 (And.intro @fa69_1 (And.intro @fa69_2 (And.intro @fa69_3 (And.intro @fa69_4 (And.intro @nilC (And.intro @ex2_0 (And.intro @ex2_1 (@Nat.add_zero)))))))))))))))))))))))))))))))))):=And.intro @ld3 (And.intro @ld2 (And.intro @ld9 (And.intro @ld37 (And.intro @ld28 (And.intro @ld42 (And.intro @ld34 (And.intro @ld22 (And.intro @ld24 (And.intro @ld23 (And.intro @ld77 (And.intro @ld81 (And.intro @ld29 (And.intro @ld67 (And.intro @ld70 (And.intro @fa37_0 (And.intro @fa37_1 (And.intro @fa37_2 (And.intro @fa28_0 (And.intro @fa28_1 (And.intro @fa42_0 (And.intro @fa42_1 (And.intro @fa42_2 (And.intro @fa79_0 (And.intro @fa79_1 (And.intro @fa69_0 (And.intro @fa69_1 (And.intro @fa69_2 (And.intro @fa69_3 (And.intro @fa69_4 (And.intro @nilC (And.intro @ex2_0 (And.intro @ex2_1 (@Nat.add_zero)))))))))))))))))))))))))))))))))
/-! ### What may be -/
theorem aggsOk_may {cols : List ColD} {by_ : List Int} {aggs : List AggD} (h : aggsOk cols by_ aggs = true) : aggs.length ≤ 8 ∧ by_.length ≤ 8 ∧ cols.length ≤ 16 ∧ ∀ a ∈ aggs,mayA cols a = true:=by
 unfold aggsOk colsOk at h
 simp only [Bool.and_eq_true,decide_eq_true_eq,Bool.not_eq_true',List.any_eq_false,Bool.not_eq_true,Bool.not_eq_false'] at h
 obtain ⟨⟨_,h0,_⟩,_,h1,h2,_,h3⟩:=h
 refine ⟨h1,h2,h0,fun a ha=>?_⟩
 have:=h3 a ha
 simpa using this
theorem may_c {cols : List ColD} {a : AggD} (h : mayA cols a = true) : a.k = 1 ∨ 0 ≤ a.c:=by
 unfold mayA thereA at h
 split at h
 ·exact .inl (by assumption)
 ·split at h
  ·simp only [Bool.and_eq_true,decide_eq_true_eq] at h; exact .inr h.1.1
  ·split at h
   ·simp only [Bool.and_eq_true,decide_eq_true_eq] at h; exact .inr h.1
   ·cases h
theorem may_tel {cols : List ColD} {a : AggD} (h : mayA cols a = true) : telIn cols.length (telNew a):=by
 unfold mayA thereA at h
 unfold telNew
 split at h
 ·rename_i q; rw [if_pos q]; trivial
 ·rename_i q; rw [if_neg q]
  split at h
  ·rename_i q2; rw [if_pos q2]
   simp only [Bool.and_eq_true,decide_eq_true_eq] at h
   show a.c.toNat < cols.length
   omega
  ·rename_i q2; rw [if_neg q2]
   split at h
   ·simp only [Bool.and_eq_true,decide_eq_true_eq] at h
    split
    ·exact ⟨by omega,.inr rfl⟩
    ·exact ⟨by omega,.inl rfl⟩
   ·cases h
/-! ### Keys of groups -/
structure GKey (gs : List GD) : Prop where
 nodup : (gs.map fun x=>keyS x.1).Nodup
 rows : ∀ x ∈ gs,x.1.length ≤ 8 ∧ ∀ c ∈ x.1,cellOk c = true
theorem addG_keys (aggs : List AggD) (key row : List CellD) : ∀ gs : List GD,(addG aggs key row gs).map (fun x=>keyS x.1) = gs.map (fun x=>keyS x.1) ∧ keyS key ∈ gs.map (fun x=>keyS x.1) ∨ (addG aggs key row gs).map (fun x=>keyS x.1) = gs.map (fun x=>keyS x.1) ++ [keyS key] ∧ keyS key ∉ gs.map (fun x=>keyS x.1)
 | []=>.inr ⟨rfl,by simp⟩
 | x :: gs=>by
  simp only [addG]
  split
  ·rename_i q
   exact .inl ⟨rfl,by simp [q]⟩
  ·rename_i q
   rcases addG_keys aggs key row gs with ⟨h1,h2⟩ | ⟨h1,h2⟩
   ·exact .inl ⟨by simp [h1],by simp only [List.map_cons]; exact List.mem_cons_of_mem _ h2⟩
   ·refine .inr ⟨by simp [h1],?_⟩
    simp only [List.map_cons,List.mem_cons,not_or]
    exact ⟨fun e=>q e.symm,h2⟩
theorem addG_rows (aggs : List AggD) (key row : List CellD) : ∀ (gs : List GD) (x : GD),x ∈ addG aggs key row gs→x.1 = key ∨ ∃ y ∈ gs,y.1 = x.1
 | [],x,h=>by
  simp only [addG,List.mem_singleton] at h
  subst h
  exact .inl rfl
 | y :: gs,x,h=>by
  simp only [addG] at h
  split at h
  ·rcases List.mem_cons.1 h with rfl | h
   ·exact .inr ⟨y,List.mem_cons_self ..,rfl⟩
   ·exact .inr ⟨x,List.mem_cons_of_mem _ h,rfl⟩
  ·rcases List.mem_cons.1 h with rfl | h
   ·exact .inr ⟨x,List.mem_cons_self ..,rfl⟩
   ·rcases addG_rows aggs key row gs x h with h | ⟨z,hz,e⟩
    ·exact .inl h
    ·exact .inr ⟨z,List.mem_cons_of_mem _ hz,e⟩
theorem GKey.add {gs : List GD} (h : GKey gs) (aggs : List AggD) {key : List CellD} (row : List CellD) (hk : key.length ≤ 8 ∧ ∀ c ∈ key,cellOk c = true) : GKey (addG aggs key row gs):=by
 refine ⟨?_,fun x hx=>?_⟩
 ·rcases addG_keys aggs key row gs with ⟨e,_⟩ | ⟨e,q⟩
  ·rw [e]; exact h.nodup
  ·rw [e]
   refine List.nodup_append.2 ⟨h.nodup,by simp,fun a ha b hb=>?_⟩
   rw [List.mem_singleton] at hb
   subst hb
   rintro rfl
   exact q ha
 ·rcases addG_rows aggs key row gs x hx with e | ⟨y,hy,e⟩
  ·rw [e]; exact hk
  ·rw [← e]; exact h.rows y hy
theorem addG_len (aggs : List AggD) (key row : List CellD) (gs : List GD) : (addG aggs key row gs).length ≤ gs.length + 1:=by
 rcases addG_keys aggs key row gs with ⟨e,_⟩ | ⟨e,_⟩
 ·have:=congrArg List.length e; simp at this; omega
 ·have:=congrArg List.length e; simp at this; omega
theorem newG_key (aggs : List AggD) (by_ : List Int) : GKey (newG aggs by_):=by
 unfold newG
 split
 ·exact ⟨by simp,fun x hx=>by
   simp only [List.mem_singleton] at hx
   subst hx
   exact ⟨Nat.zero_le _,fun c hc=>by cases hc⟩⟩
 ·exact ⟨by simp,fun x hx=>by cases hx⟩
theorem newG_in {cols : List ColD} {aggs : List AggD} (hl : aggs.length ≤ 500) (ha : ∀ a ∈ aggs,telIn cols.length (telNew a)) (by_ : List Int) : GIn cols.length (newG aggs by_):=by
 unfold newG
 split
 ·intro x hx
  simp only [List.mem_singleton] at hx
  subst hx
  refine ⟨by simpa using hl,fun t ht=>?_⟩
  obtain ⟨a,ha',rfl⟩:=List.mem_map.1 ht
  exact ha a ha'
 ·intro x hx; cases hx
theorem newG_len (aggs : List AggD) (by_ : List Int) : (newG aggs by_).length ≤ 1:=by unfold newG; split <;> simp
theorem pick_ok {cols : List ColD} {row : List CellD} {by_ : List Int} (h : rowOk cols row = true) (hb : by_.length ≤ 8) : (pickL row by_).length ≤ 8 ∧ ∀ c ∈ pickL row by_,cellOk c = true:=by
 refine ⟨by unfold pickL; simpa using hb,fun c hc=>?_⟩
 unfold pickL at hc
 obtain ⟨z,hz,rfl⟩:=List.mem_map.1 hc
 unfold atC
 split
 ·cases ex : row[z.toNat]? with
  | none=>rfl
  | some x=>exact rowOk_cell h (List.mem_of_getElem? ex)
 ·rfl
theorem keyL_len : ∀ {l : List CellD},(∀ c ∈ l,cellOk c = true)→(keyL l).length ≤ 515 * l.length
 | [],_=>by simp [keyL]
 | c :: l,h=>by
  have h1:=keyC_len (h c (List.mem_cons_self ..))
  have h2:=keyL_len (l:=l) fun x hx=>h x (List.mem_cons_of_mem _ hx)
  unfold keyL at *
  simp only [List.map_cons,List.flatten_cons,List.length_append,List.length_cons]
  omega
theorem keyS_size {l : List CellD} (h : ∀ c ∈ l,cellOk c = true) (hl : l.length ≤ 8) : (keyS l).size ≤ maxLen:=by
 have h1:=keyL_len h
 have : (keyS l).size = (keyL l).length:=by unfold keyS strB; simp [ByteArray.size]
 rw [this]
 have : (5000 : Nat) ≤ maxLen:=by decide
 omega
/-- All of a state's groups may be gone through. -/
structure AccM.Fit (A : AccM) (cols : List ColD) (by_ : List Int) (aggs : List AggD) (gs : List GD) : Prop where
 ok : A.Ok
 cols : A.cols = cols
 by_ : A.by_ = by_
 aggs : A.aggs = aggs
 gs : A.gs.map Grp.D = gs
theorem bdAcc (a b c : Option Addr) (l1 c1 l2 c2 l3 c3 m : Nat) : pBuild Try.prog 69 #[(0,.slice a l1 c1),(1,.slice b l2 c2),(2,.slice c l3 c3),(3,.map (some m))] = some (.agg #[.slice a l1 c1,.slice b l2 c2,.slice c l3 c3,.map (some m),.int .i64 0]):=by kernel_rfl
theorem f18c {k : Nat} {h0 h : AH} {L : List (Nat × AO)} {O : List OS} {cv bv av : Value} {cols : List ColD} {by_ : List Int} {aggs : List AggD} (S : Stt Try.prog h0.n h0 h L O) (C : Cols h0 cv cols) (B : IntsZ h0 bv by_) (G : Aggs h0 av aggs)
  (hcl : cols.length ≤ 2 ^ 30) (hbl : by_.length ≤ 2 ^ 30) (hal : aggs.length ≤ 2 ^ 30) :
  Tl (eInv env (k + 1605) (.func 18) #[] #[cv,bv,av] h) fun r =>
   (aggsOk cols by_ aggs = false ∧ r.1 = .tuple #[.pointer none,.int .i64 (aggsE cols by_ aggs)] ∧ Stt Try.prog h0.n h0 r.2 L O) ∨
   (aggsOk cols by_ aggs = true ∧ ∃ A : AccM,A.Fit cols by_ aggs (newG aggs by_) ∧ A.n = 0 ∧ r.1 = .tuple #[.pointer (some ⟨A.p,0,none⟩),.int .i64 0] ∧ Stt Try.prog h0.n h0 r.2 (A.B ++ L) O):=by
 rw [F18_call]
 unfold F18
 have he:=aggsE_zero cols by_ aggs
 refine Tl.bind (f20x (k:=k + 1304) (C.grow S.grow) (B.grow S.grow) (G.grow S.grow) (by omega) (by omega) (by omega)) ?_
 rintro ⟨r,h1⟩ ⟨er,g1⟩
 simp only at er g1
 subst er
 have S1:=S.call g1
 cases ok : aggsOk cols by_ aggs with
 | false =>
  have q : ¬ aggsE cols by_ aggs = 0:=fun q=>by rw [he.1 q] at ok; cases ok
  have qq : (aggsE cols by_ aggs != 0) = true:=bne_t q
  repeat (first | (with_reducible apply qzV; simp (disch:=omega) only [coreA,Int.reduceBEq,bzY9,qq] <;> with_reducible rfl) | (with_reducible first | apply qzT | apply qzF | apply qzG | apply qzH) | ((with_reducible first | apply qzB | apply qzC | apply qzD); simp (disch:=omega) only [coreA,Int.reduceBEq,bzY9,qq] <;> with_reducible rfl))
  exact ⟨_,rfl,.inl ⟨rfl,rfl,S1⟩⟩
 | true =>
  have q : aggsE cols by_ aggs = 0:=he.2 ok
  have qq : (aggsE cols by_ aggs != 0) = false:=bne_f q
  obtain ⟨al,bl,cl,hmay⟩:=aggsOk_may ok
  have hb : ∀ h',pLen Try.prog #[24] bv h' = some (.int .i64 by_.length):=fun h'=>B.len
  repeat (first | (with_reducible apply qzV; simp (disch:=omega) only [coreA,Int.reduceBEq,bzY9,qq] <;> with_reducible rfl) | (with_reducible first | apply qzT | apply qzF | apply qzG | apply qzH) | ((with_reducible first | apply qzB | apply qzC | apply qzD); simp (disch:=omega) only [coreA,Int.reduceBEq,bzY9,qq] <;> with_reducible rfl))
  refine Tl.bind (f36c (k:=k + 1603) S1 (C.grow S1.grow) (by omega)) ?_
  rintro ⟨cv',h2⟩ S2
  simp only at S2
  obtain ⟨FC,S2,hC⟩:=S2.freeze
  repeat (first | (with_reducible apply qzV; simp (disch:=omega) only [coreA,Int.reduceBEq,bzY9] <;> with_reducible rfl) | (with_reducible first | apply qzT | apply qzF | apply qzG | apply qzH) | ((with_reducible first | apply qzB | apply qzC | apply qzD); simp (disch:=omega) only [coreA,Int.reduceBEq,bzY9] <;> with_reducible rfl))
  refine Tl.bind (f37c (k:=k + 1603) S2 (B.grow S2.grow) (by omega)) ?_
  rintro ⟨bv',h3⟩ S3
  simp only at S3
  obtain ⟨FB,S3,hB⟩:=S3.freeze
  repeat (first | (with_reducible apply qzV; simp (disch:=omega) only [coreA,Int.reduceBEq,bzY9] <;> with_reducible rfl) | (with_reducible first | apply qzT | apply qzF | apply qzG | apply qzH) | ((with_reducible first | apply qzB | apply qzC | apply qzD); simp (disch:=omega) only [coreA,Int.reduceBEq,bzY9] <;> with_reducible rfl))
  refine Tl.bind (f38c (k:=k + 1603) S3 (G.grow S3.grow) (by omega)) ?_
  rintro ⟨av',h4⟩ S4
  simp only at S4
  obtain ⟨FA,S4,hA⟩:=S4.freeze
  have M4 : Mem h4 (FA ++ (FB ++ FC)):=memF S4 fun p hp=>by
   simp only [List.mem_append] at hp ⊢
   rcases hp with hp | hp | hp <;> simp [hp]
  obtain ⟨mA,mBC⟩:=Mem.app.1 M4
  obtain ⟨mB,mC⟩:=Mem.app.1 mBC
  obtain ⟨a1,c1,e1,_⟩:=(hC h4 mC).form
  obtain ⟨a2,c2,e2,_⟩:=(hB h4 mB).form
  obtain ⟨a3,c3,e3,_⟩:=(hA h4 mA).form
  repeat (first | (with_reducible apply qzV; simp (disch:=omega) only [coreA,Int.reduceBEq,bzY9] <;> with_reducible rfl) | (with_reducible first | apply qzT | apply qzF | apply qzG | apply qzH) | ((with_reducible first | apply qzB | apply qzC | apply qzD); simp (disch:=omega) only [coreA,Int.reduceBEq,bzY9] <;> with_reducible rfl))
  refine Tl.mkmap S4 mapG fun m h5 S5 g5=>?_
  have bd:=bdAcc a1 a2 a3 (cols.map colrow).length c1 (irows by_).length c2 (aggs.map arow).length c3 m
  rw [← e1,← e2,← e3] at bd
  repeat (first | (with_reducible apply qzV; simp (disch:=omega) only [coreA,Int.reduceBEq,bzY9,bd] <;> with_reducible rfl) | (with_reducible first | apply qzT | apply qzF | apply qzG | apply qzH) | ((with_reducible first | apply qzB | apply qzC | apply qzD); simp (disch:=omega) only [coreA,Int.reduceBEq,bzY9,bd] <;> with_reducible rfl))
  refine Tl.box' S5 (by rw [e1,e2,e3]; rfl) (by rw [sz69]; rfl) fun p h6 S6 g6=>?_
  let A0 : AccM:=⟨p,m,cv',bv',av',cols,by_,aggs,0,[],FA ++ (FB ++ FC)⟩
  have hcells : (Value.agg #[cv',bv',av',.map (some m),.int .i64 0]).cells.toList = [cv',bv',av',.map (some m),.int .i64 0]:=by
   rw [e1,e2,e3]; rfl
  have S6 : Stt Try.prog h0.n h0 h6 (A0.B ++ L) O:=S6.perm (perm_of fun f g z0 hc hap=>by
   rw [hcells]
   unfold AccM.B accO mapO
   simp only [A0,z0,hc,hap,List.flatMap_nil,ents,List.length_nil]
   simp only [Int.natCast_zero]
   omega)
  have ok0 : A0.Ok:=⟨fun h' m'=>by
   obtain ⟨mA,mBC⟩:=Mem.app.1 m'
   obtain ⟨mB,mC⟩:=Mem.app.1 mBC
   exact ⟨(hC h' mC).z,(hB h' mB).z,(hA h' mA).z⟩,fun x hx=>by cases hx⟩
  by_cases qb : by_.length = 0
  ·have eb : by_ = []:=List.eq_nil_of_length_eq_zero qb
   have qb' : ((by_.length : Int) == 0) = true:=by simp [qb]
   repeat (first | (with_reducible apply qzV; simp (disch:=omega) only [coreA,Int.reduceBEq,bzY9,hb,qb'] <;> with_reducible rfl) | (with_reducible first | apply qzT | apply qzF | apply qzG | apply qzH) | ((with_reducible first | apply qzB | apply qzC | apply qzD); simp (disch:=omega) only [coreA,Int.reduceBEq,bzY9,hb,qb'] <;> with_reducible rfl))
   simp only [F18_rlrrr]
   repeat (first | (with_reducible apply qzV; simp (disch:=omega) only [coreA,Int.reduceBEq,bzY9] <;> with_reducible rfl) | (with_reducible first | apply qzT | apply qzF | apply qzG | apply qzH) | ((with_reducible first | apply qzB | apply qzC | apply qzD); simp (disch:=omega) only [coreA,Int.reduceBEq,bzY9] <;> with_reducible rfl))
   refine Tl.bind (f39c (k:=k + 1000) (A:=A0) (F:=[]) (row:=[]) S6 ok0 (fun a ha=>may_c (hmay a ha)) (by simp only [A0]; omega) (fun h' _=>.inl (.inl ⟨rfl,rfl⟩)) (fun c hc=>by cases hc) (by simp) (by simp only [A0]; omega)) ?_
   rintro ⟨r,h7⟩ ⟨pre,x,post,er,hok,S7,-,hnew,hnil⟩
   simp only at er S7 hnew hnil
   obtain ⟨rfl,rfl⟩:=hnil rfl
   have hD : x.D = ([],aggs.map telNew):=hnew.resolve_left (fun h=>by cases h)
   repeat (first | (with_reducible apply qzV; simp (disch:=omega) only [coreA,Int.reduceBEq,bzY9] <;> with_reducible rfl) | (with_reducible first | apply qzT | apply qzF | apply qzG | apply qzH) | ((with_reducible first | apply qzB | apply qzC | apply qzD); simp (disch:=omega) only [coreA,Int.reduceBEq,bzY9] <;> with_reducible rfl))
   refine ⟨_,rfl,.inr ⟨trivial,{ A0 with gs:=[] ++ [x] },⟨⟨ok0.parts,hok⟩,rfl,rfl,rfl,?_⟩,rfl,rfl,S7⟩⟩
   show [x.D] = _
   rw [hD]
   unfold newG
   rw [if_pos eb]
  ·have eb : ¬ by_ = []:=fun e=>qb (by rw [e]; rfl)
   have qb' : ((by_.length : Int) == 0) = false:=beq_f (by omega)
   repeat (first | (with_reducible apply qzV; simp (disch:=omega) only [coreA,Int.reduceBEq,bzY9,hb,qb'] <;> with_reducible rfl) | (with_reducible first | apply qzT | apply qzF | apply qzG | apply qzH) | ((with_reducible first | apply qzB | apply qzC | apply qzD); simp (disch:=omega) only [coreA,Int.reduceBEq,bzY9,hb,qb'] <;> with_reducible rfl))
   simp only [F18_rlrrr]
   repeat (first | (with_reducible apply qzV; simp (disch:=omega) only [coreA,Int.reduceBEq,bzY9] <;> with_reducible rfl) | (with_reducible first | apply qzT | apply qzF | apply qzG | apply qzH) | ((with_reducible first | apply qzB | apply qzC | apply qzD); simp (disch:=omega) only [coreA,Int.reduceBEq,bzY9] <;> with_reducible rfl))
   refine ⟨_,rfl,.inr ⟨trivial,A0,⟨ok0,rfl,rfl,rfl,?_⟩,rfl,rfl,S6⟩⟩
   unfold newG
   rw [if_neg eb]
   rfl
/-- Rows are told, one by one. -/
def accGo (aggs : List AggD) (by_ : List Int) (gs : List GD) (rows : List (List CellD)) : List GD:=rows.foldl (fun gs row=>addG aggs (pickL row by_) row gs) gs
structure GFit (cols : List ColD) (n : Nat) (gs : List GD) : Prop where
 key : GKey gs
 tel : GIn cols.length gs
 len : gs.length ≤ n + 1
theorem GFit.add {cols : List ColD} {n : Nat} {gs : List GD} (h : GFit cols n gs) {by_ : List Int} {aggs : List AggD} (ok : aggsOk cols by_ aggs = true) {row : List CellD} (hr : rowOk cols row = true) : GFit cols (n + 1) (addG aggs (pickL row by_) row gs):=by
 obtain ⟨al,bl,cl,hmay⟩:=aggsOk_may ok
 exact ⟨h.key.add _ _ (pick_ok hr bl),GIn.add (by omega) (fun a ha=>may_tel (hmay a ha)) _ _ h.tel,by have:=addG_len aggs (pickL row by_) row gs; have:=h.len; omega⟩
theorem newG_fit {cols : List ColD} {by_ : List Int} {aggs : List AggD} (ok : aggsOk cols by_ aggs = true) : GFit cols 0 (newG aggs by_):=by
 obtain ⟨al,bl,cl,hmay⟩:=aggsOk_may ok
 exact ⟨newG_key aggs by_,newG_in (by omega) (fun a ha=>may_tel (hmay a ha)) by_,newG_len aggs by_⟩
/-- 'Add', as a state's groups are known. -/
theorem acc_add {k : Nat} {A : AccM} {h0 h : AH} {L : List (Nat × AO)} {O : List OS} {rv : Value} {row : List CellD} {cols : List ColD} {by_ : List Int} {aggs : List AggD} {gs : List GD} {n : Nat} (S : Stt Try.prog h0.n h0 h (A.B ++ L) O) (hA : A.Fit cols by_ aggs gs) (hg : GFit cols n gs)
  (ok : aggsOk cols by_ aggs = true) (R : Cells h0 rv row) (hr : ∀ x ∈ row,cellR x) (hrl : row.length ≤ 1000) (hn : A.n ≤ 1000000) :
  Tl (eInv env (k + 1605) (.func 21) #[] #[.pointer (some ⟨A.p,0,none⟩),rv] h) fun r =>
   (rowOk cols row = false ∧ r.1 = .int .i64 (rowE cols row) ∧ Stt Try.prog h0.n h0 r.2 (A.B ++ L) O) ∨
   (rowOk cols row = true ∧ r.1 = .int .i64 0 ∧ ∃ A' : AccM,A'.Fit cols by_ aggs (addG aggs (pickL row by_) row gs) ∧ A'.p = A.p ∧ A'.n = A.n + 1 ∧ Stt Try.prog h0.n h0 r.2 (A'.B ++ L) O):=by
 obtain ⟨al,bl,cl,hmay⟩:=aggsOk_may ok
 obtain ⟨hok,rfl,rfl,rfl,rfl⟩:=hA
 refine (f21c S hok R hr hrl (by omega) (fun a ha=>may_c (hmay a ha)) (by omega) (by omega) hn hg.tel fun a ha=>may_tel (hmay a ha)).mono fun r hr=>?_
 rcases hr with h | ⟨h1,h2,gs',h3,h4,h5⟩
 ·exact .inl h
 ·exact .inr ⟨h1,h2,_,⟨h3,rfl,rfl,rfl,h5⟩,rfl,rfl,h4⟩
/-- 'Rows', as a state's groups are known. -/
theorem acc_rows {k : Nat} {n0 : Nat} {A : AccM} {h0 h : AH} {L : List (Nat × AO)} {O : List OS} {cols : List ColD} {by_ : List Int} {aggs : List AggD} {gs : List GD} {n : Nat} (S : Stt Try.prog n0 h0 h (A.B ++ L) O) (hA : A.Fit cols by_ aggs gs) (hg : GFit cols n gs) (hn : n ≤ 900) :
  Tl (eInv env (k + 1004) (.func 24) #[] #[.pointer (some ⟨A.p,0,none⟩)] h) fun r=>∃ (rs : RS) (qs : List GD),qs.Perm gs ∧ qs.map (fun x=>bytesB (keyS x.1)) = sortedT (gs.map fun x=>keyS x.1) ∧ rowsOf rs = qs.map rowT ∧
   Stt Try.prog n0 h0 r.2 (A.B ++ L) ((r.1,1,outs rs) :: (owns rs ++ O)):=by
 obtain ⟨hok,rfl,rfl,rfl,rfl⟩:=hA
 have ek : ∀ l : List Grp,(l.map Grp.D).map (fun x=>keyS x.1) = l.map fun x=>keyS x.row:=fun l=>by rw [List.map_map]; rfl
 have hk:=hg.key
 refine (f24c S hok (by have:=hk.nodup; rwa [ek] at this) (fun x hx=>?_) (fun x hx=>?_) (by have:=hg.len; simp at this; omega)).mono fun r hr=>?_
 ·have:=hk.rows x.D (List.mem_map.2 ⟨x,hx,rfl⟩)
  exact keyS_size this.2 this.1
 ·have h1:=(hk.rows x.D (List.mem_map.2 ⟨x,hx,rfl⟩)).1
  have h2:=(hg.tel x.D (List.mem_map.2 ⟨x,hx,rfl⟩)).1
  unfold Grp.D at h1 h2
  simp only [List.length_map] at h1 h2
  omega
 ·obtain ⟨rs,qs,q1,q2,q3,q4⟩:=hr
  refine ⟨rs,qs.map Grp.D,q1.map _,?_,?_,q4⟩
  ·rw [ek,← q2,List.map_map]; rfl
  ·rw [q3,List.map_map]; rfl
def rowsE (cols : List ColD) : List (List CellD)→Int
 | []=>0
 | r :: l=>if rowE cols r = 0 then rowsE cols l else rowE cols r
theorem rowsE_zero (cols : List ColD) : ∀ rows : List (List CellD),rowsE cols rows = 0 ↔ rows.all (rowOk cols) = true
 | []=>by simp [rowsE]
 | r :: l=>by
  have ih:=rowsE_zero cols l
  have hz:=rowE_zero cols r
  unfold rowsE
  rw [List.all_cons]
  by_cases q : rowE cols r = 0
  ·rw [if_pos q,ih,hz.1 q,Bool.true_and]
  ·rw [if_neg q]
   have : rowOk cols r = false:=by
    cases hf : rowOk cols r with
    | false=>rfl
    | true=>exact absurd (hz.2 hf) q
   rw [this,Bool.false_and]
   simp [q]
def ofE (cols : List ColD) (by_ : List Int) (aggs : List AggD) (rows : List (List CellD)) : Int:=if aggsE cols by_ aggs = 0 then rowsE cols rows else aggsE cols by_ aggs
def ofOk (cols : List ColD) (by_ : List Int) (aggs : List AggD) (rows : List (List CellD)) : Bool:=aggsOk cols by_ aggs && rows.all (rowOk cols)
theorem f12_dead {β : Type} {k : Nat} {Q : β→Prop} {h0 h : AH} {rv y0 : Value} {rows : List (List CellD)} (R : Rows h0 rv rows) (hl : rows.length ≤ 800) {e : Int} (he : e ≠ 0) {i j : Nat} (hi : i ≤ rows.length) (g : Grow h0 h)
  {ke0 : Value→Value→Value→Value→Value→Value→Value→Value→AH→Option β} (hk : ∀ y1 y2 y3 y4 y5 y6,Tl (ke0 y0 (.int .i64 e) y1 y2 y3 y4 y5 y6 h) Q) :
  Tl (F12_lrlrr (eInv env k) k (j + 1) y0 (.int .i64 e) rv (.int .i64 rows.length) (.int .i64 i) h ke0) Q:=by
 have q : (e != 0) = true:=bne_t he
 simp only [F12_lrlrr]
 by_cases qi : i < rows.length
 ·obtain ⟨x,ex⟩ : ∃ x,rows[i]? = some x:=⟨_,List.getElem?_eq_getElem (by omega)⟩
  obtain ⟨b,o,w,hp,hc0,Cx0⟩:=R.at_ ex
  have hc:=g.cell hc0
  repeat (first | (with_reducible apply qzV; simp (disch:=omega) only [coreA,Int.reduceBEq,bzY9,hp,hc,q] <;> with_reducible rfl) | (with_reducible first | apply qzT | apply qzF | apply qzG | apply qzH) | ((with_reducible first | apply qzB | apply qzC | apply qzD); simp (disch:=omega) only [coreA,Int.reduceBEq,bzY9,hp,hc,q] <;> with_reducible rfl))
  exact hk _ _ _ _ _ _
 ·repeat (first | (with_reducible apply qzV; simp (disch:=omega) only [coreA,Int.reduceBEq,bzY9] <;> with_reducible rfl) | (with_reducible first | apply qzT | apply qzF | apply qzG | apply qzH) | ((with_reducible first | apply qzB | apply qzC | apply qzD); simp (disch:=omega) only [coreA,Int.reduceBEq,bzY9] <;> with_reducible rfl))
  exact hk _ _ _ _ _ _
theorem f12_loop {β : Type} {k : Nat} {Q : β→Prop} {h0 : AH} {rv : Value} {rows : List (List CellD)} {cols : List ColD} {by_ : List Int} {aggs : List AggD} (R : Rows h0 rv rows) (hl : rows.length ≤ 800) (hls : ∀ r ∈ rows,r.length ≤ 1000 ∧ ∀ x ∈ r,cellR x)
  (ok : aggsOk cols by_ aggs = true) {ke0 : Value→Value→Value→Value→Value→Value→Value→Value→AH→Option β} (n : Nat) :
  ∀ {i j : Nat} {h : AH} {A : AccM} {gs : List GD},i + n = rows.length→n < j→A.n = i→A.Fit cols by_ aggs gs→GFit cols i gs→Stt Try.prog h0.n h0 h A.B [] →
   ((rows.drop i).all (rowOk cols) = true→∀ (A' : AccM) y1 y2 y3 y4 y5 y6 h',A'.Fit cols by_ aggs (accGo aggs by_ gs (rows.drop i))→GFit cols rows.length (accGo aggs by_ gs (rows.drop i))→Stt Try.prog h0.n h0 h' A'.B []→Tl (ke0 (.pointer (some ⟨A'.p,0,none⟩)) (.int .i64 0) y1 y2 y3 y4 y5 y6 h') Q) →
   ((rows.drop i).all (rowOk cols) = false→∀ y0 y1 y2 y3 y4 y5 y6 h',Grow h0 h'→Tl (ke0 y0 (.int .i64 (rowsE cols (rows.drop i))) y1 y2 y3 y4 y5 y6 h') Q) →
   Tl (F12_lrlrr (eInv env (k + 1605)) (k + 1605) j (.pointer (some ⟨A.p,0,none⟩)) (.int .i64 0) rv (.int .i64 rows.length) (.int .i64 i) h ke0) Q:=by
 induction n with
 | zero =>
  intro i j h A gs hi hj hn hA hg S hk hr
  obtain ⟨j,rfl⟩ : ∃ q,j = q + 1:=⟨j - 1,by omega⟩
  simp only [F12_lrlrr]
  repeat (first | (with_reducible apply qzV; simp (disch:=omega) only [coreA,Int.reduceBEq,bzY9] <;> with_reducible rfl) | (with_reducible first | apply qzT | apply qzF | apply qzG | apply qzH) | ((with_reducible first | apply qzB | apply qzC | apply qzD); simp (disch:=omega) only [coreA,Int.reduceBEq,bzY9] <;> with_reducible rfl))
  rw [List.drop_eq_nil_of_le (by omega)] at hk
  have : i = rows.length:=by omega
  subst this
  exact hk rfl A _ _ _ _ _ _ _ hA hg S
 | succ n ih =>
  intro i j h A gs hi hj hn hA hg S hk hr
  obtain ⟨j,rfl⟩ : ∃ q,j = q + 1:=⟨j - 1,by omega⟩
  obtain ⟨x,ex⟩ : ∃ x,rows[i]? = some x:=⟨_,List.getElem?_eq_getElem (by omega)⟩
  obtain ⟨b,o,w,hp,hc0,Cx0⟩:=R.at_ ex
  have hc:=S.grow.cell hc0
  have e : (i : Int) + 1 = ((i + 1 : Nat) : Int):=by omega
  obtain ⟨x1,x2⟩:=hls x (List.mem_of_getElem? ex)
  rw [drop_at ex,List.all_cons] at hk hr
  rw [rowsE] at hr
  simp only [F12_lrlrr]
  repeat (first | (with_reducible apply qzV; simp (disch:=omega) only [coreA,Int.reduceBEq,bzY9,hp,hc] <;> with_reducible rfl) | (with_reducible first | apply qzT | apply qzF | apply qzG | apply qzH) | ((with_reducible first | apply qzB | apply qzC | apply qzD); simp (disch:=omega) only [coreA,Int.reduceBEq,bzY9,hp,hc] <;> with_reducible rfl))
  refine Tl.bind (acc_add (k:=k) (L:=[]) (by rw [List.append_nil]; exact S) hA hg ok Cx0 x2 x1 (by omega)) ?_
  rintro ⟨r,h1⟩ hres
  rcases hres with ⟨h1',er,S1⟩ | ⟨h1',er,A',hA',hp',hn',S1⟩
  ·simp only at er S1
   subst er
   have hne : rowE cols x ≠ 0:=fun q=>by rw [(rowE_zero cols x).1 q] at h1'; cases h1'
   rw [h1',Bool.false_and,if_neg hne] at hr
   repeat (first | (with_reducible apply qzV; simp (disch:=omega) only [coreA,Int.reduceBEq,bzY9] <;> with_reducible rfl) | (with_reducible first | apply qzT | apply qzF | apply qzG | apply qzH) | ((with_reducible first | apply qzB | apply qzC | apply qzD); simp (disch:=omega) only [coreA,Int.reduceBEq,bzY9] <;> with_reducible rfl))
   rw [e]
   obtain ⟨j,rfl⟩ : ∃ q,j = q + 1:=⟨j - 1,by omega⟩
   rw [List.append_nil] at S1
   exact f12_dead R hl hne (by omega) S1.grow fun y1 y2 y3 y4 y5 y6=>hr rfl _ _ _ _ _ _ _ _ S1.grow
  ·simp only at er S1
   subst er
   rw [h1',Bool.true_and] at hk hr
   rw [if_pos ((rowE_zero cols x).2 h1')] at hr
   repeat (first | (with_reducible apply qzV; simp (disch:=omega) only [coreA,Int.reduceBEq,bzY9] <;> with_reducible rfl) | (with_reducible first | apply qzT | apply qzF | apply qzG | apply qzH) | ((with_reducible first | apply qzB | apply qzC | apply qzD); simp (disch:=omega) only [coreA,Int.reduceBEq,bzY9] <;> with_reducible rfl))
   rw [e,← hp']
   rw [List.append_nil] at S1
   exact ih (by omega) (by omega) (by omega) hA' (hg.add ok h1') S1 hk hr
/-- Aggregates of rows. -/
theorem f12x {k : Nat} {h : AH} {cv rv bv av : Value} {cols : List ColD} {rows : List (List CellD)} {by_ : List Int} {aggs : List AggD} (C : Cols h cv cols) (R : Rows h rv rows) (B : IntsZ h bv by_) (G : Aggs h av aggs)
  (hcl : cols.length ≤ 2 ^ 30) (hbl : by_.length ≤ 2 ^ 30) (hal : aggs.length ≤ 2 ^ 30) (hl : rows.length ≤ 800) (hls : ∀ r ∈ rows,r.length ≤ 1000 ∧ ∀ x ∈ r,cellR x) :
  Tl (eInv env (k + 1606) (.func 12) #[] #[cv,rv,bv,av] h) fun r =>
   (ofOk cols by_ aggs rows = false ∧ r.1 = .tuple #[.slice none 0 0,.int .i64 (ofE cols by_ aggs rows)] ∧ Grow h r.2) ∨
   (ofOk cols by_ aggs rows = true ∧ ∃ (v : Value) (rs : RS) (qs : List GD),r.1 = .tuple #[v,.int .i64 0] ∧ qs.Perm (accG aggs by_ rows) ∧ qs.map (fun x=>bytesB (keyS x.1)) = sortedT ((accG aggs by_ rows).map fun x=>keyS x.1) ∧ rowsOf rs = qs.map rowT ∧
    Stt Try.prog h.n h r.2 [] ((v,1,outs rs) :: owns rs)):=by
 rw [F12_call]
 unfold F12 ofOk ofE
 have az:=aggsE_zero cols by_ aggs
 have hv : ∀ h',pLen Try.prog #[23] rv h' = some (.int .i64 rows.length):=fun h'=>R.len
 refine Tl.bind (f18c (k:=k) (Stt.init h) C B G hcl hbl hal) ?_
 rintro ⟨r,h1⟩ hres
 rcases hres with ⟨ok,er,S1⟩ | ⟨ok,A,hA,hn,er,S1⟩
 ·simp only at er S1
  subst er
  have hne : aggsE cols by_ aggs ≠ 0:=fun q=>by rw [az.1 q] at ok; cases ok
  rw [ok,if_neg hne]
  have q : (aggsE cols by_ aggs != 0) = true:=bne_t hne
  repeat (first | (with_reducible apply qzV; simp (disch:=omega) only [coreA,Int.reduceBEq,bzY9,hv] <;> with_reducible rfl) | (with_reducible first | apply qzT | apply qzF | apply qzG | apply qzH) | ((with_reducible first | apply qzB | apply qzC | apply qzD); simp (disch:=omega) only [coreA,Int.reduceBEq,bzY9,hv] <;> with_reducible rfl))
  simp only [F12_rlrr]
  refine f12_dead (k:=k + 1605) (j:=k + 1604) (i:=0) R hl hne (by omega) S1.grow fun y1 y2 y3 y4 y5 y6=>?_
  repeat (first | (with_reducible apply qzV; simp (disch:=omega) only [coreA,Int.reduceBEq,bzY9,q] <;> with_reducible rfl) | (with_reducible first | apply qzT | apply qzF | apply qzG | apply qzH) | ((with_reducible first | apply qzB | apply qzC | apply qzD); simp (disch:=omega) only [coreA,Int.reduceBEq,bzY9,q] <;> with_reducible rfl))
  exact ⟨_,rfl,.inl ⟨rfl,rfl,S1.grow⟩⟩
 ·simp only at er S1
  subst er
  rw [ok,Bool.true_and,if_pos (az.2 ok)]
  rw [List.append_nil] at S1
  repeat (first | (with_reducible apply qzV; simp (disch:=omega) only [coreA,Int.reduceBEq,bzY9,hv] <;> with_reducible rfl) | (with_reducible first | apply qzT | apply qzF | apply qzG | apply qzH) | ((with_reducible first | apply qzB | apply qzC | apply qzD); simp (disch:=omega) only [coreA,Int.reduceBEq,bzY9,hv] <;> with_reducible rfl))
  simp only [F12_rlrr]
  refine f12_loop (k:=k) R hl hls ok rows.length (i:=0) (by omega) (by omega) hn hA (newG_fit ok) S1 (fun hok A' y1 y2 y3 y4 y5 y6 h2 hA' hg' S2=>?_) fun hbad y0 y1 y2 y3 y4 y5 y6 h2 g=>?_
  ·rw [List.drop_zero] at hok hA' hg'
   rw [hok]
   repeat (first | (with_reducible apply qzV; simp (disch:=omega) only [coreA,Int.reduceBEq,bzY9] <;> with_reducible rfl) | (with_reducible first | apply qzT | apply qzF | apply qzG | apply qzH) | ((with_reducible first | apply qzB | apply qzC | apply qzD); simp (disch:=omega) only [coreA,Int.reduceBEq,bzY9] <;> with_reducible rfl))
   refine Tl.bind (acc_rows (k:=k + 601) (L:=[]) (by rw [List.append_nil]; exact S2) hA' hg' (by omega)) ?_
   rintro ⟨v,h3⟩ ⟨rs,qs,q1,q2,q3,S3⟩
   simp only at S3
   repeat (first | (with_reducible apply qzV; simp (disch:=omega) only [coreA,Int.reduceBEq,bzY9] <;> with_reducible rfl) | (with_reducible first | apply qzT | apply qzF | apply qzG | apply qzH) | ((with_reducible first | apply qzB | apply qzC | apply qzD); simp (disch:=omega) only [coreA,Int.reduceBEq,bzY9] <;> with_reducible rfl))
   refine ⟨_,rfl,.inr ⟨rfl,v,rs,qs,rfl,q1,q2,q3,?_⟩⟩
   rw [List.append_nil,List.append_nil] at S3
   exact dropL A'.B (by rw [List.append_nil]; exact S3)
  ·rw [List.drop_zero] at hbad
   rw [List.drop_zero]
   have hne : rowsE cols rows ≠ 0:=fun q=>by rw [(rowsE_zero cols rows).1 q] at hbad; cases hbad
   have q : (rowsE cols rows != 0) = true:=bne_t hne
   rw [hbad]
   repeat (first | (with_reducible apply qzV; simp (disch:=omega) only [coreA,Int.reduceBEq,bzY9,q] <;> with_reducible rfl) | (with_reducible first | apply qzT | apply qzF | apply qzG | apply qzH) | ((with_reducible first | apply qzB | apply qzC | apply qzD); simp (disch:=omega) only [coreA,Int.reduceBEq,bzY9,q] <;> with_reducible rfl))
   exact ⟨_,rfl,.inl ⟨rfl,rfl,g⟩⟩
theorem ofE_zero (cols : List ColD) (by_ : List Int) (aggs : List AggD) (rows : List (List CellD)) : ofE cols by_ aggs rows = 0 ↔ ofOk cols by_ aggs rows = true:=by
 have az:=aggsE_zero cols by_ aggs
 unfold ofE ofOk
 by_cases q : aggsE cols by_ aggs = 0
 ·rw [if_pos q,rowsE_zero,az.1 q,Bool.true_and]
 ·rw [if_neg q]
  have : aggsOk cols by_ aggs = false:=by
   cases hf : aggsOk cols by_ aggs with
   | false=>rfl
   | true=>exact absurd (az.2 hf) q
  rw [this,Bool.false_and]
  simp [q]
end Go.Proofs.Ytgklcfnjahomjaa.Sh
