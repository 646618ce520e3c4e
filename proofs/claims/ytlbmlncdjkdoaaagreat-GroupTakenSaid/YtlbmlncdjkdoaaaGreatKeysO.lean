/- 'slices.Sorted(maps.Keys(m))' of texts as an oracle of the evaluator: the kit's contracts of the library's functions, in the evaluator's memory. -/
import Derived.Test.YtlbmlncdjkdoaaaGreatEvB
import Derived.Shelf.SlIter.Nil
import Derived.Shelf.SlIter.Sorted
import Derived.Shelf.SortM.Plain
import Derived.Shelf.SortM.SortNone
set_option linter.unusedVariables false
set_option linter.unusedSimpArgs false
namespace Go.Proofs.Ev
open Go Go.RowKit Go.Sort Go.Maps
variable {G : Code→Prop} {P : Program} {w0 : World} {ρ : Ren} {D : List Mk} {h : AH} {w w1 : World}
/-- A new block, wherever it lies behind the old ones. -/
theorem Sim.allocAt (S : Sim G P w0 ρ D h w) (hb : Below w.heap.size w w1) (o : AO) (r : RB) (hr : w.heap.size ≤ r.blk) (hr2 : r.blk < w1.heap.size) (ho : ObjR G P w0.heap.size (ρ.ext h.n r) w1 r o) :
  Sim G P w0 (ρ.ext h.n r) D (h.alloc o) w1:=by
 have S1:=S.later hb
 have hle:=ext_le S1 r
 refine ⟨S1.below,?_,?_,?_,S1.defs,S1.nodup,fun b ob hb=>?_⟩
 ·intro i x hx
  by_cases hi : i = h.n
  ·subst hi
   rw [ext_new] at hx
   cases hx
   simp [hr2]
  ·rw [ext_old ρ r hi] at hx
   have:=S1.dom i x hx
   simp
   omega
 ·intro i x hx hd hl
  by_cases hi : i = h.n
  ·subst hi
   rw [AH.get_alloc_new] at hx
   cases hx
   exact ⟨r,ext_new _ _ _,ho⟩
  ·have hlt : i < h.n:=by have:=AH.get_lt hx; simp at this; omega
   rw [AH.get_alloc_old h o hlt] at hx
   obtain ⟨q,hq,hob⟩:=S1.obj i x hx hd hl
   exact ⟨q,hle _ _ hq,hob.same hle rfl⟩
 ·intro i j oi oj ri rj hij hi hj mi mj hri hrj
  have key : ∀ i j oi oj ri rj,i ≠ j→i = h.n→(h.alloc o).get i = some oi→(h.alloc o).get j = some oj→mine oj = true→ρ.ext h.n r i = some ri→ρ.ext h.n r j = some rj→ri.blk ≠ rj.blk:=by
   intro i j oi oj ri rj hij hin hi hj mj hri hrj
   subst hin
   rw [ext_new] at hri
   cases hri
   have hjn : j ≠ h.n:=Ne.symm hij
   rw [ext_old ρ r hjn] at hrj
   have:=(S.dom j rj hrj).2
   omega
  by_cases hi' : i = h.n
  ·exact .inl (key i j oi oj ri rj hij hi' hi hj mj hri hrj)
  ·by_cases hj' : j = h.n
   ·exact .inl (Ne.symm (key j i oj oi rj ri (Ne.symm hij) hj' hj hi mi hrj hri))
   ·have l1 : i < h.n:=by have:=AH.get_lt hi; simp at this; omega
    have l2 : j < h.n:=by have:=AH.get_lt hj; simp at this; omega
    rw [AH.get_alloc_old h o l1] at hi
    rw [AH.get_alloc_old h o l2] at hj
    rw [ext_old ρ r hi'] at hri
    rw [ext_old ρ r hj'] at hrj
    exact S1.sep i j oi oj ri rj hij hi hj mi mj hri hrj
 ·have hlt:=S1.lateLt hb
  rw [ext_old ρ r (by omega),AH.get_alloc_old h o hlt]
  exact S1.late b ob hb
/-- A map's keys, if all are texts. -/
def textsOf : List MapEntry→Option (List ByteArray)
 | []=>some []
 | e :: es=>match e.key with
  | .string s=>(textsOf es).map (s :: ·)
  | _=>none
def bytesB (s : ByteArray) : List UInt8:=s.data.toList
/-- Texts in order. -/
def putIn (x : List UInt8) : List (List UInt8)→List (List UInt8)
 | []=>[x]
 | y :: l=>bif Op.bytesLess y x then y :: putIn x l else x :: y :: l
def sortedT (ks : List ByteArray) : List (List UInt8):=(ks.map bytesB).foldr putIn []
theorem putIn_perm (x : List UInt8) : ∀ l,(putIn x l).Perm (x :: l)
 | []=>List.Perm.refl _
 | y :: l=>by
  unfold putIn
  cases Op.bytesLess y x
  ·exact List.Perm.refl _
  ·exact ((putIn_perm x l).cons y).trans (List.Perm.swap x y l)
theorem putIn_le (x : List UInt8) : ∀ l : List (List UInt8),l.Pairwise (· ≤ ·)→(putIn x l).Pairwise (· ≤ ·)
 | [],_=>by simp [putIn]
 | y :: l,h=>by
  unfold putIn
  have h':=List.pairwise_cons.1 h
  cases q : Op.bytesLess y x
  ·rw [bytesLess_eq,decide_eq_false_iff_not] at q
   have hxy : x ≤ y:=List.not_lt.1 q
   exact List.pairwise_cons.2 ⟨fun z hz=>by
    rcases List.mem_cons.1 hz with rfl | hz
    ·exact hxy
    ·exact List.le_trans hxy (h'.1 z hz),h⟩
  ·rw [bytesLess_eq,decide_eq_true_eq] at q
   exact List.pairwise_cons.2 ⟨fun z hz=>by
    rcases List.mem_cons.1 ((putIn_perm x l).mem_iff.1 hz) with rfl | hz
    ·exact List.le_of_lt q
    ·exact h'.1 z hz,putIn_le x l h'.2⟩
theorem foldIn_perm : ∀ l : List (List UInt8),(l.foldr putIn []).Perm l
 | []=>List.Perm.refl _
 | x :: l=>(putIn_perm x _).trans ((foldIn_perm l).cons x)
theorem foldIn_le : ∀ l : List (List UInt8),(l.foldr putIn []).Pairwise (· ≤ ·)
 | []=>List.Pairwise.nil
 | x :: l=>putIn_le x _ (foldIn_le l)
theorem sortedT_perm (ks : List ByteArray) : (sortedT ks).Perm (ks.map bytesB):=foldIn_perm _
theorem sortedT_le (ks : List ByteArray) : (sortedT ks).Pairwise (· ≤ ·):=foldIn_le _
theorem sortedT_eq (ks : List ByteArray) : sortedT ks = (ks.map bytesB).mergeSort fun x y=>decide (x ≤ y):=by
 have tr : ∀ a b c : List UInt8,decide (a ≤ b) = true→decide (b ≤ c) = true→decide (a ≤ c) = true:=fun a b c h1 h2=>by simp only [decide_eq_true_eq] at *; exact List.le_trans h1 h2
 have to : ∀ a b : List UInt8,(decide (a ≤ b) || decide (b ≤ a)) = true:=fun a b=>by simp only [Bool.or_eq_true,decide_eq_true_eq]; exact List.le_total a b
 have h2 : ((ks.map bytesB).mergeSort fun x y=>decide (x ≤ y)).Pairwise (· ≤ ·):=(List.pairwise_mergeSort (le:=fun x y : List UInt8=>decide (x ≤ y)) tr to (ks.map bytesB)).imp fun h=>by simpa using h
 exact List.Perm.eq_of_pairwise (le:=(· ≤ ·)) (fun a b _ _ h1 h2=>List.le_antisymm h1 h2) (sortedT_le ks) h2 ((sortedT_perm ks).trans (List.mergeSort_perm _ _).symm)
def mapFine (es : List MapEntry) (clock : Nat) (ks : List ByteArray) : Bool :=
 (es.all fun e=>decide (e.born < clock)) && (decide (es.map (·.born)).Nodup && (decide ks.Nodup && ((ks.all fun s=>decide (s.size ≤ maxLen)) && decide (es.length ≤ 1099511627776))))
def keysO (Ks : List FuncId) (t : TypeId) (args : Array Value) (h : AH) : Option (Value × AH):=match args.toList with
 | [.func (.func g) first captured]=>match first.toList,captured.toList with
  | [],[.pointer (some ⟨b,0,none⟩)]=>match h.get b with
   | some (.cells (.map (some m) :: _) _ true)=>match h.get m with
    | some (.map es clock)=>(textsOf es).bind fun ks=>if Ks.contains g && mapFine es clock ks then
      (if ks.isEmpty then some (.slice none 0 0,h) else some (.slice (some ⟨h.n,0,none⟩) ks.length ks.length,h.alloc (.cells ((sortedT ks).map encStr) t true))) else none
    | _=>none
   | _=>none
  | _,_=>none
 | _=>none
def noVal : Value→Option (DataW Unit × List MemPlace):=fun _=>some (.map [],[])
theorem textsOf_es : ∀ {es es' : List MapEntry} {ks : List ByteArray},textsOf es = some ks→EsR ρ es es' →
  es'.map (·.key) = ks.map Value.string ∧ es'.map (·.born) = es.map (·.born) ∧ es.length = ks.length
 | [],_,ks,h,r=>by
  cases r
  simp [textsOf] at h
  subst h
  exact ⟨rfl,rfl,rfl⟩
 | e :: es,_,ks,h,r=>by
  cases r with
  | @cons x y xs ys hx hr =>
   unfold textsOf at h
   split at h
   ·rename_i s hs
    obtain ⟨ks',h1,rfl⟩:=Option.map_eq_some_iff.1 h
    obtain ⟨i1,i2,i3⟩:=textsOf_es h1 hr
    obtain ⟨v1,v2,v3⟩:=hx
    rw [hs] at v1
    have : y.key = .string s:=by
     generalize hk : y.key = z at v1
     cases v1
     rfl
    exact ⟨by simp [this,i1],by simp [i2,v3],by simp [i3]⟩
   ·cases h
theorem key_string {k : TypeId} (hk : P.underlying k = some .string) {s : ByteArray} (hs : s.size ≤ maxLen) : keyOf P k (.string s) = some (.string (bytesB s)):=by
 unfold keyOf
 simp [hk,mapKey,hs,bytesB]
theorem keysO_sim {f : FuncId} {Ks : List FuncId} {k : TypeId} (hk : P.underlying k = some .string) (hsz : szT P k = some 1)
  (H : ∀ g ∈ Ks,∀ (B b nn : Nat) (D0 : DataW Unit) (w : World),B < w.heap.size→w.cell? ⟨B,0,none⟩ = some (.map (some b))→w.ownsMap P k noVal b nn D0→Maps.size D0 ≤ 1099511627776 →
   Calls P f #[.func (.func g) #[] #[.pointer (some ⟨B,0,none⟩)]] w fun e w'=>∃ (v : Value) (ss : List (List UInt8)),e = .returned v ∧ ss.Perm (strKeys D0) ∧
    w'.ownsRow w.heap.size k 1 v ss.length ((ss.mergeSort (fun x y=>decide (x ≤ y))).map encStr) ∧ (v = .slice none 0 0 ↔ ss = []) ∧ Below w.heap.size w w')
  {args : Array Value} {v : Value} {h2 : AH} (hg : keysO Ks k args h = some (v,h2)) {args' : Array Value} (S : Sim G P w0 ρ D h w) (ha : AsR ρ args args') : CallsIn Fence.wide 0 P f args' w (CallPost G P w0 ρ D v h2):=by
 unfold keysO at hg
 split at hg
 case h_2=>cases hg
 rename_i g first captured hl
 split at hg
 case h_2=>cases hg
 rename_i b hl1 hl2
 split at hg
 case h_2=>cases hg
 rename_i m cs e hb
 split at hg
 case h_2=>cases hg
 rename_i es clock hm
 obtain ⟨ks,hks,hg⟩:=Option.bind_eq_some_iff.1 hg
 split at hg
 case isFalse=>cases hg
 rename_i hcond
 rw [Bool.and_eq_true] at hcond
 obtain ⟨hgK,hfine⟩:=hcond
 have hgK : g ∈ Ks:=by simpa using hgK
 unfold mapFine at hfine
 simp only [Bool.and_eq_true,List.all_eq_true,decide_eq_true_eq] at hfine
 obtain ⟨hf1,hf2,hf3,hf4,hf5⟩:=hfine
 have e1 : args = #[.func (.func g) first captured]:=Array.toList_inj.1 hl
 have e2 : first = #[]:=Array.toList_inj.1 hl1
 have e3 : captured = #[.pointer (some ⟨b,0,none⟩)]:=Array.toList_inj.1 hl2
 subst e1 e2 e3
 obtain ⟨v',rfl⟩ : ∃ v',args' = #[v']:=by
  obtain ⟨l⟩:=args'
  have:=ha.1
  match l with
  | [x]=>exact ⟨x,rfl⟩
  | []=>simp at this
  | _ :: _ :: _=>simp at this
 have hv:=ha.2 0 _ v' rfl rfl
 cases hv with
 | func f0 f' a0 b0 a' b' hfn hs1 _ hs2 hv2 =>
 cases hfn
 obtain rfl : a' = #[]:=by
  have : a'.size = 0:=hs1.symm
  exact Array.eq_empty_of_size_eq_zero this
 obtain ⟨c',rfl⟩ : ∃ c',b' = #[c']:=by
  obtain ⟨l⟩:=b'
  have : l.length = 1:=hs2.symm
  match l,this with
  | [x],_=>exact ⟨x,rfl⟩
 have hc:=hv2 0 _ c' rfl rfl
 cases hc with
 | ptr a a' hA =>
 obtain ⟨_,r,hr,rfl⟩:=hA
 simp only at hr
 obtain ⟨r',hr',hcc⟩:=S.cells hr hb
 rw [hr] at hr'
 cases hr'
 have hbase:=hcc.flat rfl
 obtain ⟨c',e',fz,g1,g2,g3,g4⟩:=hcc.heap
 obtain ⟨x,hx1,hx2⟩:=g3 0 (.map (some m)) rfl
 have hx3 : ∃ rm,x = .map (some rm.blk) ∧ ρ m = some rm:=by
  cases hx2 with
  | map _ rm h1=>exact ⟨rm,rfl,h1⟩
 obtain ⟨rm,rfl,hrm⟩:=hx3
 obtain ⟨rm',hrm',hob⟩:=S.objAt hrm hm (by simp)
 rw [hrm] at hrm'
 cases hrm'
 obtain ⟨_,es',hes,hE⟩:=hob
 obtain ⟨k1,k2,k3⟩:=textsOf_es hks hE
 have hB : r.blk < w.heap.size:=(Array.getElem?_eq_some_iff.1 g1).1
 have hcell : w.cell? ⟨r.blk,0,none⟩ = some (.map (some rm.blk)):=by
  unfold World.cell?
  simp only [g1,Option.isSome_none,Bool.false_eq_true,if_false]
  rw [hbase] at hx1
  exact hx1
 have hlen : es'.size = ks.length:=by
  have:=congrArg List.length k1
  simpa using this
 have hread : ∀ x ∈ es'.toList,∃ s ∈ ks,x.key = .string s ∧ Go.WideElems.rd P k noVal x = some (.string (bytesB s),.map []):=fun x hx=>by
  have hmem : x.key ∈ es'.toList.map (·.key):=List.mem_map.2 ⟨x,hx,rfl⟩
  rw [k1] at hmem
  obtain ⟨s,hs,e⟩:=List.mem_map.1 hmem
  refine ⟨s,hs,e.symm,?_⟩
  obtain ⟨key,val,born⟩:=x
  simp only at e
  subst e
  exact Go.WideElems.rd_mk (R:=noVal) (yv:=(DataW.map [],[])) (key_string hk (hf4 s hs)) rfl
 have hfit : Go.WideElems.Fit P k noVal es' clock:=by
  refine ⟨by rw [hlen,← k3]; exact Nat.le_trans hf5 (by decide),⟨fun x hx=>?_,?_,?_⟩,fun x hx=>?_⟩
  ·have : x.born ∈ es'.toList.map (·.born):=List.mem_map.2 ⟨x,hx,rfl⟩
   rw [k2] at this
   obtain ⟨y,hy,e⟩:=List.mem_map.1 this
   rw [← e]
   exact hf1 y hy
  ·rw [k2]; exact hf2
  ·rw [k1]
   exact List.pairwise_map.2 (hf3.imp fun hne e=>hne (by cases e; rfl))
  ·obtain ⟨s,_,_,e⟩:=hread x hx
   exact ⟨_,e⟩
 have hrg : es'.toList.map (Go.WideElems.rg P k noVal) = ks.map fun s=>(Lit.string (bytesB s),DataW.map []):=by
  have h1 : es'.toList.map (Go.WideElems.rg P k noVal) = (es'.toList.map (·.key)).map fun v=>match v with
   | .string s=>(Lit.string (bytesB s),DataW.map [])
   | _=>(Lit.string [],DataW.map []):=by
   rw [List.map_map]
   refine List.map_congr_left fun x hx=>?_
   obtain ⟨s,_,e1,e2⟩:=hread x hx
   rw [Go.WideElems.rg_of e2]
   simp [e1]
  rw [h1,k1,List.map_map]
  rfl
 have hperm : (strKeys (DataW.map ((es'.toList.map (Go.WideElems.rg P k noVal)).foldr DataW.insert [])) : List (List UInt8)).Perm (ks.map bytesB):=by
  have h1:=(Go.WideShapes.sorted_perm (es'.toList.map (Go.WideElems.rg P k noVal))).map (fun p=>strOf p.1)
  rw [hrg,List.map_map] at h1
  rw [hrg]
  exact h1
 have hsize : Maps.size (DataW.map ((es'.toList.map (Go.WideElems.rg P k noVal)).foldr DataW.insert [])) ≤ 1099511627776:=by
  show ((es'.toList.map (Go.WideElems.rg P k noVal)).foldr DataW.insert []).length ≤ 1099511627776
  rw [(Go.WideShapes.sorted_perm _).length_eq,List.length_map,Array.length_toList,hlen,← k3]
  exact hf5
 show CallsIn Fence.wide 0 P f #[.func (.func g) #[] #[.pointer (some ⟨r.blk,r.base + 0,none⟩)]] w _
 rw [hbase,Nat.add_zero]
 refine (callsIn_wide.2 (H g hgK r.blk rm.blk es'.size _ w hB hcell ⟨es',clock,hes,hfit,Nat.le_refl _,rfl⟩ hsize)).mono fun e1 w' hq=>?_
 obtain ⟨v',ss,rfl,hp,hrow,hnil,hbel⟩:=hq
 have hp2:=hp.trans hperm
 have hsort : (ss.mergeSort fun x y=>decide (x ≤ y)) = sortedT ks:=(mergeSort_of_perm hp2).trans (sortedT_eq ks).symm
 have hsl : ss.length = ks.length:=by rw [hp2.length_eq,List.length_map]
 split at hg
 ·rename_i hemp
  have : ks = []:=by simpa using hemp
  subst this
  cases hg
  have hss : ss = []:=List.eq_nil_of_length_eq_zero hsl
  have:=hnil.2 hss
  subst this
  exact ⟨ρ,_,rfl,Ren.le_refl _,.nilSlice 0 0,S.later hbel⟩
 ·rename_i hemp
  have hne : ks ≠ []:=by simpa using hemp
  cases hg
  have hssne : ss ≠ []:=fun e=>hne (by rw [e] at hsl; exact List.eq_nil_of_length_eq_zero hsl.symm)
  rcases hrow.2 with ⟨rfl,h0⟩ | ⟨gb,cap,cur,rfl,hgb,hcur,r1,r2,r3,r4⟩
  ·exact absurd (List.eq_nil_of_length_eq_zero h0) hssne
  ·rw [hsort] at r4
   rw [Nat.mul_one] at r3 r4
   have hlt : gb < w'.heap.size:=(Array.getElem?_eq_some_iff.1 hcur).1
   have hsn : ((sortedT ks).map encStr).length = ks.length:=by rw [List.length_map,(sortedT_perm ks).length_eq,List.length_map]
   refine ⟨_,_,rfl,ext_le S ⟨gb,0,ks.length,cap,1⟩,?_,S.allocAt hbel _ ⟨gb,0,ks.length,cap,1⟩ hgb hlt ?_⟩
   ·rw [hsl]
    exact new_slice ρ h.n 0 ⟨gb,0,ks.length,cap,1⟩ rfl (.inr ⟨by omega,by dsimp only; omega,by dsimp only; omega,by dsimp only; omega⟩)
   ·refine ⟨hsn.symm,by dsimp only; omega,⟨cur,k,(0,0),hcur,by dsimp only; omega,fun j x hx=>?_,fun _=>.inl rfl⟩,fun _=>⟨Nat.le_trans S.lt hgb,hsz⟩,fun hq=>(by cases hq),fun _=>rfl⟩
    rw [← r4] at hx
    rw [List.getElem?_take] at hx
    split at hx
    ·rw [Array.getElem?_toList] at hx
     refine ⟨x,by simpa using hx,?_⟩
     have hx' : ((sortedT ks).map encStr)[j]? = some x:=by
      rw [← r4,List.getElem?_take,if_pos (by assumption),Array.getElem?_toList]
      exact hx
     rw [List.getElem?_map,Option.map_eq_some_iff] at hx'
     obtain ⟨y,_,rfl⟩:=hx'
     exact .string _
    ·cases hx
/-- The setting, with the library's 'Sorted' of maps' keys as an oracle. -/
def keysE (E : Env) (f : FuncId) (Ks : List FuncId) (t : TypeId) : Env:={ E with O:=fun g=>if g = f then some (keysO Ks t) else E.O g }
theorem keysE_ok {E : Env} {f : FuncId} {Ks : List FuncId} {k : TypeId} (hE : EnvOK E) (hb : ∃ fn c, E.P.funcs[f]? = some fn ∧ fn.body = some c ∧ (fn.name == "runtime.NumGoroutine") = false)
  (hk : E.P.underlying k = some .string) (hsz : szT E.P k = some 1)
  (H : ∀ g ∈ Ks,∀ (B b nn : Nat) (D0 : DataW Unit) (w : World),B < w.heap.size→w.cell? ⟨B,0,none⟩ = some (.map (some b))→w.ownsMap E.P k noVal b nn D0→Maps.size D0 ≤ 1099511627776 →
   Calls E.P f #[.func (.func g) #[] #[.pointer (some ⟨B,0,none⟩)]] w fun e w'=>∃ (v : Value) (ss : List (List UInt8)),e = .returned v ∧ ss.Perm (strKeys D0) ∧
    w'.ownsRow w.heap.size k 1 v ss.length ((ss.mergeSort (fun x y=>decide (x ≤ y))).map encStr) ∧ (v = .slice none 0 0 ↔ ss = []) ∧ Below w.heap.size w w') : EnvOK (keysE E f Ks k):=by
 refine ⟨hE.mix,hE.code,fun g o hg=>?_,hE.ext⟩
 simp only [keysE] at hg
 split at hg
 ·rename_i h1
  subst h1
  cases hg
  exact ⟨hb,fun args h v h2 hv w0 ρ D w args' S ha=>keysO_sim hk hsz H hv S ha⟩
 ·exact hE.orac g o hg
end Go.Proofs.Ev
