/- Groups as they lie in memory; the group of some values (the code's 'of'). -/
import Derived.Test.YtgklcfnjahomjaaSzY4
set_option linter.unusedVariables false
set_option linter.unusedSimpArgs false
set_option maxRecDepth 100000
namespace Go.Proofs.Ytgklcfnjahomjaa.Sh
open Go Go.RowKit Go.Proofs.Ev
theorem bzY5 : type_of% (And.intro @ld3 (And.intro @ld2 (And.intro @ld9 (And.intro @ld37 (And.intro @ld28 (And.intro @ld34 (And.intro @ld77 (And.intro @ld81 (And.intro @ld29 (And.intro @ld67 (And.intro @fa37_0 (And.intro @fa37_1 (And.intro @fa37_2 (And.intro @fa28_0 (And.intro @fa28_1 (And.intro @fa79_0 (And.intro @fa79_1 (And.intro @fa69_0 (And.intro @fa69_1 (And.intro @fa69_2 (And.intro @fa69_3 (And.intro @fa69_4 (And.intro @nilC (And.intro @ex2_0 (And.intro @ex2_1 (@Nat.add_zero)))))))))))))))))))))))))):=And.intro @ld3 (And.intro @ld2 (And.intro @ld9 (And.intro @ld37 (And.intro @ld28 (And.intro @ld34 (And.intro @ld77 (And.intro @ld81 (And.intro @ld29 (And.intro @ld67 (And.intro @fa37_0 (And.intro @fa37_1 (And.intro @fa37_2 (And.intro @fa28_0 (And.intro @fa28_1 (And.intro @fa79_0 (And.intro @fa79_1 (And.intro @fa69_0 (And.intro @fa69_1 (And.intro @fa69_2 (And.intro @fa69_3 (And.intro @fa69_4 (And.intro @nilC (And.intro @ex2_0 (And.intro @ex2_1 (@Nat.add_zero)))))))))))))))))))))))))
/-- Lists that have the same, however often, are one another's orders. -/
theorem perm_of {α : Type} {l m : List α} (h : ∀ (f : List α→Nat) (g : α→Nat),f [] = 0→(∀ x l,f (x :: l) = g x + f l)→(∀ l l',f (l ++ l') = f l + f l')→f l = f m) : l.Perm m:=by
 classical
 refine List.perm_iff_count.2 fun a=>h (List.count a) (fun x=>if x == a then 1 else 0) rfl (fun x l=>?_) fun l l'=>List.count_append
 rw [List.count_cons,Nat.add_comm]
section
variable {n0 : Nat} {h0 h : AH} {L L' F : List (Nat × AO)} {O : List OS}
theorem dropL : ∀ (D : List (Nat × AO)),Stt Try.prog n0 h0 h (D ++ L) O→Stt Try.prog n0 h0 h L O
 | [],S=>S
 | _ :: D,S=>dropL D S.drop
theorem keepL (D : List (Nat × AO)) (S : Stt Try.prog n0 h0 h L O) (hp : L.Perm (D ++ L')) : Stt Try.prog n0 h0 h L' O:=dropL D (S.perm hp)
theorem memF (S : Stt Try.prog n0 h0 h L O) (hs : ∀ p ∈ F,p ∈ L) : Mem h F:=Mem.iff.2 fun p hp=>Mem.iff.1 S.sta.mem p (hs p hp)
theorem getL (S : Stt Try.prog n0 h0 h L O) {b : Nat} {o : AO} (hm : (b,o) ∈ L) : h.get b = some o:=Mem.iff.1 S.sta.mem _ hm
end
/-- A group in memory. -/
structure Grp where
 g : Nat
 rv : Value
 av : Value
 row : List CellD
 ts : List (Nat × Tel)
 F : List (Nat × AO)
def tsB (ts : List (Nat × Tel)) : List (Nat × AO):=ts.map fun p=>(p.1,telO p.2)
def tsV (ts : List (Nat × Tel)) : List (List Value):=ts.map fun p=>[telV p.2 p.1]
def grpO (rv av : Value) : AO:=.cells [rv,av] 79 true
def Grp.B (x : Grp) : List (Nat × AO):=(x.g,grpO x.rv x.av) :: (tsB x.ts ++ x.F)
def Grp.Ok (x : Grp) : Prop:=∀ h,Mem h x.F→Cells h x.rv x.row ∧ SlV Try.prog h x.av 1 (tsV x.ts)
def Grp.D (x : Grp) : GD:=(x.row,x.ts.map (·.2))
def Grp.add (row : List CellD) (x : Grp) : Grp:={ x with ts:=x.ts.map fun p=>(p.1,telAdd row p.2) }
theorem telV_add (row : List CellD) (t : Tel) (b : Nat) : telV (telAdd row t) b = telV t b:=by cases t <;> rfl
theorem tsV_add (row : List CellD) (ts : List (Nat × Tel)) : tsV (ts.map fun p=>(p.1,telAdd row p.2)) = tsV ts:=by
 unfold tsV
 rw [List.map_map]
 exact List.map_congr_left fun p _=>by simp [telV_add]
theorem Grp.Ok.add {x : Grp} (h : x.Ok) (row : List CellD) : (x.add row).Ok:=fun h' m=>by
 obtain ⟨h1,h2⟩:=h h' m
 refine ⟨h1,?_⟩
 show SlV Try.prog h' x.av 1 (tsV (x.ts.map fun p=>(p.1,telAdd row p.2)))
 rw [tsV_add]
 exact h2
theorem Grp.add_D (row : List CellD) (x : Grp) : (x.add row).D = (x.row,(x.D).2.map (telAdd row)):=by
 unfold Grp.add Grp.D
 simp
def ents : Nat→List Grp→List MapEntry
 | _,[]=>[]
 | i,x :: gs=>{ key:=.string (keyS x.row),val:=.pointer (some ⟨x.g,0,none⟩),born:=i } :: ents (i + 1) gs
theorem ents_app : ∀ (i : Nat) (gs hs : List Grp),ents i (gs ++ hs) = ents i gs ++ ents (i + gs.length) hs
 | i,[],hs=>by simp [ents]
 | i,x :: gs,hs=>by
  simp only [ents,List.cons_append,List.length_cons,ents_app (i + 1) gs hs]
  rw [Nat.add_assoc,Nat.add_comm 1]
/-- The same keys and places. -/
def sameG (x y : Grp) : Prop:=x.row = y.row ∧ x.g = y.g
theorem ents_mid (i : Nat) (pre post : List Grp) {x y : Grp} (h : sameG x y) : ents i (pre ++ x :: post) = ents i (pre ++ y :: post):=by
 rw [ents_app,ents_app]
 congr 1
 simp only [ents]
 rw [h.1,h.2]
theorem beqF {a b : ByteArray} (h : ¬ a = b) : (a == b) = false:=by rw [beqB_dec]; simp [h]
theorem findG_no (s : ByteArray) : ∀ (gs : List Grp) (o i : Nat),(∀ x ∈ gs,¬ keyS x.row = s)→findE .string (.string s) (ents o gs) i = some none
 | [],o,i,_=>rfl
 | x :: gs,o,i,h=>by
  have h1 : (s == keyS x.row) = false:=by
   have:=h x (List.mem_cons_self ..)
   exact beqF fun e=>this e.symm
  simp only [ents,findE,Instr.sameNow,h1]
  exact findG_no s gs _ _ fun y hy=>h y (List.mem_cons_of_mem _ hy)
theorem findG_at (s : ByteArray) (x : Grp) (post : List Grp) (hx : keyS x.row = s) : ∀ (pre : List Grp) (o i : Nat),(∀ x ∈ pre,¬ keyS x.row = s)→∃ j,findE .string (.string s) (ents o (pre ++ x :: post)) i = some (some (j,.pointer (some ⟨x.g,0,none⟩)))
 | [],o,i,_=>by
  have h1 : (s == keyS x.row) = true:=by rw [hx]; exact beqB s
  simp only [List.nil_append,ents,findE,Instr.sameNow,h1]
  exact ⟨_,rfl⟩
 | y :: pre,o,i,h=>by
  have h1 : (s == keyS y.row) = false:=by
   have:=h y (List.mem_cons_self ..)
   exact beqF fun e=>this e.symm
  simp only [List.cons_append,ents,findE,Instr.sameNow,h1]
  exact findG_at s x post hx pre _ _ fun y hy=>h y (List.mem_cons_of_mem _ hy)
/-- Where a key is, or that it is not. -/
theorem findG (s : ByteArray) : ∀ gs : List Grp,(∀ x ∈ gs,¬ keyS x.row = s) ∨ ∃ pre x post,gs = pre ++ x :: post ∧ keyS x.row = s ∧ ∀ y ∈ pre,¬ keyS y.row = s
 | []=>.inl fun x hx=>by cases hx
 | x :: gs=>by
  by_cases hx : keyS x.row = s
  ·exact .inr ⟨[],x,gs,rfl,hx,fun y hy=>by cases hy⟩
  ·rcases findG s gs with h | ⟨pre,y,post,rfl,h2,h3⟩
   ·refine .inl fun y hy=>?_
    rcases List.mem_cons.1 hy with rfl | hy
    ·exact hx
    ·exact h y hy
   ·refine .inr ⟨x :: pre,y,post,rfl,h2,fun z hz=>?_⟩
    rcases List.mem_cons.1 hz with rfl | hz
    ·exact hx
    ·exact h3 z hz
theorem addG_no (aggs : List AggD) (key row : List CellD) : ∀ gs : List Grp,(∀ x ∈ gs,¬ keyS x.row = keyS key)→addG aggs key row (gs.map Grp.D) = gs.map Grp.D ++ [(key,(aggs.map telNew).map (telAdd row))]
 | [],_=>rfl
 | x :: gs,h=>by
  simp only [List.map_cons,addG,List.cons_append]
  rw [if_neg (show ¬ keyS x.D.1 = keyS key from h x (List.mem_cons_self ..)),addG_no aggs key row gs fun y hy=>h y (List.mem_cons_of_mem _ hy)]
theorem addG_at (aggs : List AggD) (key row : List CellD) (x : Grp) (post : List Grp) (hx : keyS x.row = keyS key) : ∀ pre : List Grp,(∀ x ∈ pre,¬ keyS x.row = keyS key) →
  addG aggs key row ((pre ++ x :: post).map Grp.D) = (pre ++ x.add row :: post).map Grp.D
 | [],_=>by
  simp only [List.nil_append,List.map_cons,addG]
  rw [if_pos (show keyS x.D.1 = keyS key from hx),Grp.add_D]
  rfl
 | y :: pre,h=>by
  simp only [List.cons_append,List.map_cons,addG]
  rw [if_neg (show ¬ keyS y.D.1 = keyS key from h y (List.mem_cons_self ..)),addG_at aggs key row x post hx pre fun z hz=>h z (List.mem_cons_of_mem _ hz)]
/-- All that is told, in memory. -/
structure AccM where
 p : Nat
 m : Nat
 cv : Value
 bv : Value
 av : Value
 cols : List ColD
 by_ : List Int
 aggs : List AggD
 n : Nat
 gs : List Grp
 F : List (Nat × AO)
def accO (cv bv av : Value) (m n : Nat) : AO:=.cells [cv,bv,av,.map (some m),.int .i64 (n : Int)] 69 true
def mapO (gs : List Grp) : AO:=.map (ents 0 gs) gs.length
def AccM.B (A : AccM) : List (Nat × AO):=(A.p,accO A.cv A.bv A.av A.m A.n) :: (A.m,mapO A.gs) :: (A.F ++ A.gs.flatMap Grp.B)
structure AccM.Ok (A : AccM) : Prop where
 parts : ∀ h,Mem h A.F→Cols h A.cv A.cols ∧ IntsZ h A.bv A.by_ ∧ Aggs h A.av A.aggs
 grps : ∀ x ∈ A.gs,x.Ok
theorem appTel : AppT Try.prog #[77,77] 81 1 16:=⟨by kernel_rfl,⟨81,by kernel_rfl⟩,by kernel_rfl,by omega,by kernel_rfl,⟨_,ze81,rfl,rfl⟩⟩
theorem bsTel (t : Tel) (b : Nat) (h : AH) : pBuildSlice Try.prog 77 1 #[(0,telV t b)] h = some (.slice (some ⟨h.n,0,none⟩) 1 1,h.alloc (.cells [telV t b] 81 true)):=by
 cases t <;> kernel_rfl
theorem bdG (a : Option Addr) (l c : Nat) : pBuild Try.prog 79 #[(0,.slice a l c)] = some (.agg #[.slice a l c,.slice none 0 0]):=by kernel_rfl
theorem mapG : mapT Try.prog 67 = some (9,70):=by kernel_rfl
section
variable {n0 : Nat} {h0 : AH}
theorem f39_loop {β : Type} {k : Nat} {Q : β→Prop} {A : AccM} {L : List (Nat × AO)} {O : List OS} {gb : Nat} {rv kv : Value} (ha : ∀ a ∈ A.aggs,a.k = 1 ∨ 0 ≤ a.c) (hA : A.Ok) (hl : A.aggs.length ≤ 1000)
  {ke0 : Value→Value→Value→Value→Value→Value→Value→AH→Option β} (n : Nat) :
  ∀ {i j : Nat} {h : AH} {xv : Value} {ts : List (Nat × Tel)},i + n = A.aggs.length→n < j→ts.map (·.2) = (A.aggs.take i).map telNew→Stt Try.prog n0 h0 h ((gb,grpO rv xv) :: (tsB ts ++ (A.B ++ L))) ((xv,1,tsV ts) :: O) →
   (∀ h' xv ts y29 y30 y31 y32,ts.map (·.2) = A.aggs.map telNew→Stt Try.prog n0 h0 h' ((gb,grpO rv xv) :: (tsB ts ++ (A.B ++ L))) ((xv,1,tsV ts) :: O)→Tl (ke0 (.pointer (some ⟨A.p,0,none⟩)) kv (.pointer (some ⟨gb,0,none⟩)) y29 y30 y31 y32 h') Q) →
   Tl (F39_lrlrlrlrrr (eInv env (k + 1)) (k + 1) j (.pointer (some ⟨A.p,0,none⟩)) kv (.pointer (some ⟨gb,0,none⟩)) A.av (.int .i64 A.aggs.length) (.int .i64 i) h ke0) Q:=by
 induction n with
 | zero =>
  intro i j h xv ts hi hj ht S hk
  obtain ⟨j,rfl⟩ : ∃ q,j = q + 1:=⟨j - 1,by omega⟩
  simp only [F39_lrlrlrlrrr]
  repeat (first | (with_reducible apply qzV; simp (disch:=omega) only [coreA,Int.reduceBEq,bzY5] <;> with_reducible rfl) | (with_reducible first | apply qzT | apply qzF | apply qzG | apply qzH) | ((with_reducible first | apply qzB | apply qzC | apply qzD); simp (disch:=omega) only [coreA,Int.reduceBEq,bzY5] <;> with_reducible rfl))
  exact hk _ _ _ _ _ _ _ (by rw [List.take_of_length_le (by omega)] at ht; exact ht) S
 | succ n ih =>
  intro i j h xv ts hi hj ht S hk
  obtain ⟨j,rfl⟩ : ∃ q,j = q + 1:=⟨j - 1,by omega⟩
  obtain ⟨a,ea⟩ : ∃ x,A.aggs[i]? = some x:=⟨_,List.getElem?_eq_getElem (by omega)⟩
  have hF : Mem h A.F:=memF S fun p hp=>by unfold AccM.B; simp [hp]
  obtain ⟨b,o,hp,hrow⟩:=(hA.parts h hF).2.2.at_ ea
  have e : (i : Int) + 1 = ((i + 1 : Nat) : Int):=by omega
  have hts : ts.length ≤ i:=by
   have:=congrArg List.length ht
   simp only [List.length_map,List.length_take] at this
   omega
  simp only [F39_lrlrlrlrrr,G39_8]
  repeat (first | (with_reducible apply qzV; simp (disch:=omega) only [coreA,Int.reduceBEq,bzY5,hp,hrow] <;> with_reducible rfl) | (with_reducible first | apply qzT | apply qzF | apply qzG | apply qzH) | ((with_reducible first | apply qzB | apply qzC | apply qzD); simp (disch:=omega) only [coreA,Int.reduceBEq,bzY5,hp,hrow] <;> with_reducible rfl))
  refine Tl.alloc' S ze28 (by rfl) fun b9 h1 S1 g1=>?_
  refine Tl.store' S1 0 rfl sz28 rfl rfl (by decide) fun h2 S2 k2=>?_
  have S2 : Stt Try.prog n0 h0 h2 ((b9,.cells (arow a) 28 true) :: (gb,grpO rv xv) :: (tsB ts ++ (A.B ++ L))) ((xv,1,tsV ts) :: O):=S2
  have r3 : h2.row b9 0 2 = some (arow a):=S2.row 0 rfl rfl
  have c1 : h2.cell gb 1 = some xv:=S2.cell 1 rfl rfl
  repeat (first | (with_reducible apply qzV; simp (disch:=omega) only [coreA,Int.reduceBEq,bzY5,c1,r3] <;> with_reducible rfl) | (with_reducible first | apply qzT | apply qzF | apply qzG | apply qzH) | ((with_reducible first | apply qzB | apply qzC | apply qzD); simp (disch:=omega) only [coreA,Int.reduceBEq,bzY5,c1,r3] <;> with_reducible rfl))
  refine Tl.bind (f58c (k:=k) (a:=a) S2 (ha a (List.mem_of_getElem? ea))) ?_
  rintro ⟨r,h3⟩ ⟨b,er,S3,g3⟩
  simp only at er S3 g3
  subst er
  have d1 : h3.cell gb 1 = some xv:=S3.cell 2 rfl rfl
  have d2 : (h3.alloc (.cells [telV (telNew a) b] 81 true)).cell gb 1 = some xv:=(Grow.alloc h3 _).cell d1
  have sx : sameV xv xv = true:=slV_same (S3.slV 0 rfl)
  rw [bsTel,bnd_some]
  refine Tl.append' ((S3.alloc (.cells [telV (telNew a) b] 81 true)).drop) 0 rfl appTel (slV_one (r:=[telV (telNew a) b]) rfl) (by cases telNew a <;> rfl) (by simp [tsV]; omega) fun v' h4 S4=>?_
  repeat (first | (with_reducible apply qzV; simp (disch:=omega) only [coreA,Int.reduceBEq,bzY5] <;> with_reducible rfl) | (with_reducible first | apply qzT | apply qzF | apply qzG | apply qzH) | ((with_reducible first | apply qzB | apply qzC | apply qzD); simp (disch:=omega) only [coreA,Int.reduceBEq,bzY5] <;> with_reducible rfl))
  refine Tl.store' S4 2 rfl sz77 (by have:=(S4.slV 0 rfl); exact (SlZ.cells (.inl this)) ▸ rfl) (by have:=(S4.slV 0 rfl); exact (SlZ.cells (.inl this)) ▸ by simp [SlZ.one (.inl this)]) (by simp) fun h5 S5 k5=>?_
  repeat (first | (with_reducible apply qzV; simp (disch:=omega) only [coreA,Int.reduceBEq,bzY5] <;> with_reducible rfl) | (with_reducible first | apply qzT | apply qzF | apply qzG | apply qzH) | ((with_reducible first | apply qzB | apply qzC | apply qzD); simp (disch:=omega) only [coreA,Int.reduceBEq,bzY5] <;> with_reducible rfl))
  simp only [ld77,c1,d1,d2,sameO_some,sx,Bool.and_self,Bool.not_true,Bool.false_or,chkK_t]
  repeat (first | (with_reducible apply qzV; simp (disch:=omega) only [coreA,Int.reduceBEq,bzY5] <;> with_reducible rfl) | (with_reducible first | apply qzT | apply qzF | apply qzG | apply qzH) | ((with_reducible first | apply qzB | apply qzC | apply qzD); simp (disch:=omega) only [coreA,Int.reduceBEq,bzY5] <;> with_reducible rfl))
  rw [e]
  refine ih (ts:=ts ++ [(b,telNew a)]) (xv:=v') (by omega) (by omega) ?_ ?_ hk
  ·rw [List.map_append,ht,List.take_add_one,ea,List.map_append]; rfl
  ·have : tsV (ts ++ [(b,telNew a)]) = tsV ts ++ [[telV (telNew a) b]]:=by simp [tsV]
   rw [this]
   refine keepL [(b9,.cells (arow a) 28 true)] S5 (perm_of fun f g z0 hc hap=>?_)
   have e2 : tsB (ts ++ [(b,telNew a)]) = tsB ts ++ [(b,telO (telNew a))]:=by simp [tsB]
   rw [e2]
   have e3 : splice [rv,xv] 1 v'.cells.toList = [rv,v']:=by
    rw [SlZ.cells (.inl (S4.slV 0 rfl))]; rfl
   simp only [z0,hc,hap,List.set_cons_succ,List.set_cons_zero,grpO,e3]
   omega
/-- The group of some values. -/
theorem f39c {k : Nat} {A : AccM} {h : AH} {L F : List (Nat × AO)} {O : List OS} {rv : Value} {row : List CellD} (S : Stt Try.prog n0 h0 h (A.B ++ (F ++ L)) O) (hA : A.Ok) (ha : ∀ a ∈ A.aggs,a.k = 1 ∨ 0 ≤ a.c) (hl : A.aggs.length ≤ 1000)
  (hF : ∀ h',Mem h' F→Cells h' rv row) (hok : ∀ c ∈ row,cellOk c = true ∧ cellR c) (hr : row.length ≤ 600) (hk : A.aggs.length < k + 602) :
  Tl (eInv env (k + 604) (.func 39) #[] #[.pointer (some ⟨A.p,0,none⟩),rv] h) fun r=>∃ pre x post,r.1 = .pointer (some ⟨x.g,0,none⟩) ∧ (∀ y ∈ pre ++ x :: post,y.Ok) ∧ Stt Try.prog n0 h0 r.2 ({ A with gs:=pre ++ x :: post }.B ++ L) O ∧
   (∀ r',addG A.aggs row r' (A.gs.map Grp.D) = (pre ++ x.add r' :: post).map Grp.D) ∧ (x ∈ A.gs ∨ x.D = (row,A.aggs.map telNew)) ∧ (A.gs = []→pre = [] ∧ post = []):=by
 rw [F39_call]
 unfold F39
 refine Tl.call' S (f57c (k:=k + 1) (hF h (memF S fun p hp=>by simp [hp])) hok hr) fun h1 S1 g1=>?_
 have hc3 : ∀ {h' L' O'},Stt Try.prog n0 h0 h' L' O'→(A.p,accO A.cv A.bv A.av A.m A.n) ∈ L'→h'.cell A.p 3 = some (.map (some A.m)):=fun S' hm=>by rw [cell_of (getL S' hm)]; rfl
 have c3:=hc3 S1 (by simp [AccM.B])
 have hm : h1.get A.m = some (mapO A.gs):=getL S1 (by simp [AccM.B])
 rcases findG (keyS row) A.gs with hno | ⟨pre,x,post,hgs,hx,hpre⟩
 ·have hlk:=lookup_none (P:=Try.prog) (t:=67) (ok:=true) hm mapG u9 (k:=.string (keyS row)) rfl (findG_no _ _ _ _ hno) ze70 rfl
  simp only [if_true] at hlk
  obtain ⟨ra,rc,hrv,-⟩:=(hF h1 (memF S1 fun p hp=>by simp [hp])).form
  repeat (first | (with_reducible apply qzV; simp (disch:=omega) only [coreA,Int.reduceBEq,bzY5,c3,hlk] <;> with_reducible rfl) | (with_reducible first | apply qzT | apply qzF | apply qzG | apply qzH) | ((with_reducible first | apply qzB | apply qzC | apply qzD); simp (disch:=omega) only [coreA,Int.reduceBEq,bzY5,c3,hlk] <;> with_reducible rfl))
  simp only [F39_rlrrr]
  have bd:=bdG ra (row.map crow).length rc
  rw [← hrv] at bd
  repeat (first | (with_reducible apply qzV; simp (disch:=omega) only [coreA,Int.reduceBEq,bzY5,bd] <;> with_reducible rfl) | (with_reducible first | apply qzT | apply qzF | apply qzG | apply qzH) | ((with_reducible first | apply qzB | apply qzC | apply qzD); simp (disch:=omega) only [coreA,Int.reduceBEq,bzY5,bd] <;> with_reducible rfl))
  refine Tl.box' S1 (by rw [hrv]; rfl) (by rw [sz79]; rfl) fun gb h2 S2 g2=>?_
  have S2 : Stt Try.prog n0 h0 h2 ((gb,grpO rv (.slice none 0 0)) :: (tsB [] ++ (A.B ++ (F ++ L)))) ((.slice none 0 0,1,tsV []) :: O):=by
   have:=S2.nil 1
   rw [hrv] at this ⊢
   exact this
  have c2 : h2.cell A.p 2 = some A.av:=by rw [cell_of (getL S2 (b:=A.p) (o:=accO A.cv A.bv A.av A.m A.n) (by simp [AccM.B]))]; rfl
  have hlen : ∀ h',pLen Try.prog #[29] A.av h' = some (.int .i64 A.aggs.length):=fun h'=>((hA.parts h2 (memF S2 fun p hp=>by simp [AccM.B,hp])).2.2).len
  repeat (first | (with_reducible apply qzV; simp (disch:=omega) only [coreA,Int.reduceBEq,bzY5,c2,hlen] <;> with_reducible rfl) | (with_reducible first | apply qzT | apply qzF | apply qzG | apply qzH) | ((with_reducible first | apply qzB | apply qzC | apply qzD); simp (disch:=omega) only [coreA,Int.reduceBEq,bzY5,c2,hlen] <;> with_reducible rfl))
  refine f39_loop (k:=k + 602) ha hA hl A.aggs.length (i:=0) (ts:=[]) (by omega) (by omega) rfl S2 fun h3 xv ts y29 y30 y31 y32 ht S3=>?_
  obtain ⟨FA,S4,hFA⟩:=S3.freeze
  have d3:=hc3 S4 (by simp [AccM.B])
  repeat (first | (with_reducible apply qzV; simp (disch:=omega) only [coreA,Int.reduceBEq,bzY5,d3] <;> with_reducible rfl) | (with_reducible first | apply qzT | apply qzF | apply qzG | apply qzH) | ((with_reducible first | apply qzB | apply qzC | apply qzD); simp (disch:=omega) only [coreA,Int.reduceBEq,bzY5,d3] <;> with_reducible rfl))
  have S5:=S4.perm (L':=(A.m,mapO A.gs) :: (FA ++ (gb,grpO rv xv) :: (tsB ts ++ ((A.p,accO A.cv A.bv A.av A.m A.n) :: (A.F ++ A.gs.flatMap Grp.B) ++ (F ++ L))))) (perm_of fun f g z0 hc hap=>by
   unfold AccM.B
   simp only [z0,hc,hap]; omega)
  refine Tl.upd S5 0 rfl mapG u9 rfl rfl (findG_no _ _ _ _ hno) fun h6 S6=>?_
  repeat (first | (with_reducible apply qzV; simp (disch:=omega) only [coreA,Int.reduceBEq,bzY5] <;> with_reducible rfl) | (with_reducible first | apply qzT | apply qzF | apply qzG | apply qzH) | ((with_reducible first | apply qzB | apply qzC | apply qzD); simp (disch:=omega) only [coreA,Int.reduceBEq,bzY5] <;> with_reducible rfl))
  refine ⟨_,rfl,A.gs,⟨gb,rv,xv,row,ts,F ++ FA⟩,[],rfl,?_,?_,?_,?_,?_⟩
  ·intro y hy
   rcases List.mem_append.1 hy with hy | hy
   ·exact hA.grps y hy
   ·rw [List.mem_singleton] at hy
    subst hy
    intro h' hm'
    obtain ⟨m1,m2⟩:=Mem.app.1 hm'
    exact ⟨hF h' m1,hFA h' m2⟩
  ·have em : mapO (A.gs ++ [⟨gb,rv,xv,row,ts,F ++ FA⟩]) = .map (ents 0 A.gs ++ [{ key:=.string (keyS row),val:=.pointer (some ⟨gb,0,none⟩),born:=A.gs.length }]) (A.gs.length + 1):=by
    unfold mapO
    rw [ents_app,List.length_append,Nat.zero_add]
    rfl
   refine S6.perm (perm_of fun f g z0 hc hap=>?_)
   unfold AccM.B
   simp only [z0,hc,hap,em,List.flatMap_append,List.flatMap_cons,List.flatMap_nil,Grp.B,List.set_cons_zero]
   omega
  ·intro r'
   rw [addG_no _ _ _ _ hno]
   have et : (ts.map fun p=>(p.1,telAdd r' p.2)).map (·.2) = (A.aggs.map telNew).map (telAdd r'):=by
    rw [← ht,List.map_map,List.map_map]; rfl
   rw [List.map_append,List.map_singleton]
   unfold Grp.add Grp.D
   simp only [et]
  ·exact .inr (by unfold Grp.D; simp only [ht])
  ·intro e; exact ⟨e,rfl⟩
 ·obtain ⟨j,hj⟩:=findG_at (keyS row) x post hx pre 0 0 hpre
  rw [← hgs] at hj
  have hlk:=lookup_at (P:=Try.prog) (t:=67) (ok:=true) hm mapG u9 (k:=.string (keyS row)) rfl hj
  simp only [if_true] at hlk
  repeat (first | (with_reducible apply qzV; simp (disch:=omega) only [coreA,Int.reduceBEq,bzY5,c3,hlk] <;> with_reducible rfl) | (with_reducible first | apply qzT | apply qzF | apply qzG | apply qzH) | ((with_reducible first | apply qzB | apply qzC | apply qzD); simp (disch:=omega) only [coreA,Int.reduceBEq,bzY5,c3,hlk] <;> with_reducible rfl))
  simp only [F39_rlrrr]
  repeat (first | (with_reducible apply qzV; simp (disch:=omega) only [coreA,Int.reduceBEq,bzY5] <;> with_reducible rfl) | (with_reducible first | apply qzT | apply qzF | apply qzG | apply qzH) | ((with_reducible first | apply qzB | apply qzC | apply qzD); simp (disch:=omega) only [coreA,Int.reduceBEq,bzY5] <;> with_reducible rfl))
  refine ⟨_,rfl,pre,x,post,rfl,?_,?_,?_,?_,?_⟩
  ·rw [← hgs]; exact hA.grps
  ·refine keepL F S1 (perm_of fun f g z0 hc hap=>?_)
   unfold AccM.B
   rw [← hgs]
   simp only [z0,hc,hap]
   omega
  ·intro r'
   rw [hgs]
   exact addG_at _ _ _ _ _ hx pre hpre
  ·exact .inl (by rw [hgs]; simp)
  ·intro e
   rw [e] at hgs
   simp at hgs
end
end Go.Proofs.Ytgklcfnjahomjaa.Sh
