/- What groups tell in order is what the document tells: no program in sight. -/
import Derived.Test.YtgklcfnjahomjaaSzY24
set_option linter.unusedVariables false
set_option linter.unusedSimpArgs false
set_option maxRecDepth 100000
namespace Go.Proofs.Ytgklcfnjahomjaa.Sh
open Go Go.RowKit Go.Proofs.Ev Go.Lib
theorem rcmp_anti : ∀ a b : List CellD,rcmp a b = - rcmp b a
 | [],[]=>rfl
 | [],_ :: _=>rfl
 | _ :: _,[]=>rfl
 | x :: a,y :: b=>by
  have h:=CellD.cmp_anti x y
  have ih:=rcmp_anti a b
  unfold rcmp
  by_cases q : x.cmp y = 0
  ·rw [if_pos q,if_pos (by omega),ih]
  ·rw [if_neg q,if_neg (by omega),h]
theorem rcmp_trans : ∀ {a b c : List CellD},rcmp a b ≤ 0→rcmp b c ≤ 0→rcmp a c ≤ 0
 | [],b,[],_,_=>by simp [rcmp]
 | [],b,_ :: _,_,_=>by simp [rcmp]
 | x :: a,[],c,h1,_=>by simp [rcmp] at h1
 | x :: a,y :: b,[],_,h2=>by simp [rcmp] at h2
 | x :: a,y :: b,z :: c,h1,h2=>by
  unfold rcmp at h1 h2 ⊢
  have t:=@CellD.cmp_trans x y z
  by_cases q1 : x.cmp y = 0
  ·have e1:=(CellD.cmp_zero x y).1 q1
   subst e1
   rw [if_pos q1] at h1
   by_cases q2 : x.cmp z = 0
   ·rw [if_pos q2] at h2 ⊢
    exact rcmp_trans h1 h2
   ·rw [if_neg q2] at h2 ⊢
    exact h2
  ·rw [if_neg q1] at h1
   by_cases q2 : y.cmp z = 0
   ·have e2:=(CellD.cmp_zero y z).1 q2
    subst e2
    rw [if_neg q1]
    exact h1
   ·rw [if_neg q2] at h2
    have h3:=t h1 h2
    have q3 : ¬ x.cmp z = 0:=fun q3=>by
     have e3:=(CellD.cmp_zero x z).1 q3
     subst e3
     have:=CellD.cmp_anti x y
     omega
    rw [if_neg q3]
    exact h3
theorem rcmp_lt_trans {a b c : List CellD} (h1 : rcmp a b < 0) (h2 : rcmp b c < 0) : rcmp a c < 0:=by
 have h:=@rcmp_trans a b c (by omega) (by omega)
 have : rcmp a c ≠ 0:=fun e=>by
  have e:=rcmp_zero.1 e
  subst e
  have:=rcmp_anti a b
  omega
 omega
/-! ### The keys -/
theorem posK_above (ks : List (List CellD)) (key : List CellD) : ∀ n,n ≤ ks.length→(∀ j,posK ks key n ≤ j→j < n→0 < rcmp (keyAt ks j) key) ∧ (posK ks key n = 0 ∨ rcmp (keyAt ks (posK ks key n - 1)) key ≤ 0)
 | 0,_=>⟨fun j _ h=>by omega,.inl rfl⟩
 | n + 1,hn=>by
  unfold posK
  by_cases q : rcmp (keyAt ks n) key > 0
  ·rw [if_pos q]
   obtain ⟨h1,h2⟩:=posK_above ks key n (by omega)
   refine ⟨fun j hj hj2=>?_,h2⟩
   by_cases e : j = n
   ·subst e; omega
   ·exact h1 j hj (by omega)
  ·rw [if_neg q]
   refine ⟨fun j hj hj2=>by omega,.inr ?_⟩
   rw [Nat.add_sub_cancel]
   omega
theorem insAt_spec {ks : List (List CellD)} (key : List CellD) (hs : ks.Pairwise fun a b=>rcmp a b < 0) : (insAt ks key).Pairwise (fun a b=>rcmp a b < 0) ∧ ∀ x,x ∈ insAt ks key ↔ x = key ∨ x ∈ ks:=by
 obtain ⟨h1,h2⟩:=posK_above ks key ks.length (Nat.le_refl _)
 have hle:=posK_le ks key ks.length
 unfold insAt
 generalize hk : posK ks key ks.length = k at *
 have pw:=List.pairwise_iff_getElem.1 hs
 cases q : newK ks key k with
 | true =>
  rw [if_pos rfl]
  have below : ∀ x ∈ ks.take k,rcmp x key < 0:=by
   intro x hx
   obtain ⟨j,hj⟩:=List.mem_iff_getElem?.1 hx
   have hjl:=(List.getElem?_eq_some_iff.1 hj).1
   rw [List.length_take] at hjl
   rw [List.getElem?_take_of_lt (by omega)] at hj
   obtain ⟨hj1,hj2⟩:=List.getElem?_eq_some_iff.1 hj
   have hlast : rcmp (keyAt ks (k - 1)) key < 0:=by
    unfold newK at q
    simp only [Bool.or_eq_true,decide_eq_true_eq] at q
    have:=h2.resolve_left (by omega)
    have:=q.resolve_left (by omega)
    omega
   have el : keyAt ks (k - 1) = ks[k - 1]'(by omega):=keyAt_of (List.getElem?_eq_getElem (by omega))
   rw [el] at hlast
   by_cases e : j = k - 1
   ·subst e
    rw [← hj2]; exact hlast
   ·have:=pw j (k - 1) hj1 (by omega) (by omega)
    rw [hj2] at this
    exact rcmp_lt_trans this hlast
  have above : ∀ x ∈ ks.drop k,rcmp key x < 0:=by
   intro x hx
   obtain ⟨j,hj⟩:=List.mem_iff_getElem?.1 hx
   rw [List.getElem?_drop] at hj
   have hjl:=(List.getElem?_eq_some_iff.1 hj).1
   have:=h1 (k + j) (by omega) hjl
   rw [keyAt_of hj] at this
   have:=rcmp_anti key x
   omega
  refine ⟨?_,fun x=>?_⟩
  ·rw [List.pairwise_append,List.pairwise_cons]
   refine ⟨hs.sublist (List.take_sublist _ _),⟨above,hs.sublist (List.drop_sublist _ _)⟩,fun a ha b hb=>?_⟩
   rcases List.mem_cons.1 hb with rfl | hb
   ·exact below a ha
   ·exact rcmp_lt_trans (below a ha) (above b hb)
  ·have : x ∈ ks ↔ x ∈ ks.take k ∨ x ∈ ks.drop k:=by rw [← List.mem_append,List.take_append_drop]
   rw [List.mem_append,List.mem_cons,this]
   constructor
   ·rintro (h | h | h)
    ·exact .inr (.inl h)
    ·exact .inl h
    ·exact .inr (.inr h)
   ·rintro (h | h | h)
    ·exact .inr (.inl h)
    ·exact .inl h
    ·exact .inr (.inr h)
 | false =>
  rw [if_neg (by simp)]
  refine ⟨hs,fun x=>⟨.inr,fun h=>h.elim (fun e=>?_) id⟩⟩
  unfold newK at q
  simp only [Bool.or_eq_false_iff,decide_eq_false_iff_not,Classical.not_not] at q
  have el : ks[k - 1]? = some (ks[k - 1]'(by omega)):=List.getElem?_eq_getElem (by omega)
  have e2:=q.2
  rw [keyAt_of el] at e2
  have e3:=rcmp_zero.1 e2
  rw [e,← e3]
  exact List.getElem_mem _
theorem keys_spec (by_ : List Int) : ∀ (rows : List (List CellD)) {ks : List (List CellD)},ks.Pairwise (fun a b=>rcmp a b < 0) →
  (rows.foldl (fun ks r=>insAt ks (pickL r by_)) ks).Pairwise (fun a b=>rcmp a b < 0) ∧ ∀ x,x ∈ rows.foldl (fun ks r=>insAt ks (pickL r by_)) ks ↔ x ∈ ks ∨ ∃ r ∈ rows,pickL r by_ = x
 | [],ks,h=>⟨h,fun x=>by simp⟩
 | r :: rows,ks,h=>by
  obtain ⟨i1,i2⟩:=insAt_spec (pickL r by_) h
  obtain ⟨k1,k2⟩:=keys_spec by_ rows i1
  refine ⟨k1,fun x=>?_⟩
  rw [List.foldl_cons,k2 x,i2 x]
  constructor
  ·rintro ((h | h) | ⟨r',hr',e⟩)
   ·exact .inr ⟨r,List.mem_cons_self ..,h.symm⟩
   ·exact .inl h
   ·exact .inr ⟨r',List.mem_cons_of_mem _ hr',e⟩
  ·rintro (h | ⟨r',hr',e⟩)
   ·exact .inl (.inr h)
   ·rcases List.mem_cons.1 hr' with rfl | hr'
    ·exact .inl (.inl e.symm)
    ·exact .inr ⟨r',hr',e⟩
/-! ### What is told -/
theorem nodup_of_lt {l : List (List CellD)} (h : l.Pairwise fun a b=>rcmp a b < 0) : l.Nodup :=
 h.imp fun {a b} h e=>by
  subst e
  have:=rcmp_zero (a:=a) (b:=a) |>.2 rfl
  omega
/-- An aggregate of rows that fit, either way. -/
theorem one_eq {cols : List ColD} {a : AggD} (ha : mayA cols a = true) {rs : List (List CellD)} (hr : ∀ r ∈ rs,rowOk cols r = true ∧ ∀ x ∈ r,cellR x) (hl : rs.length ≤ 1000) : telTold (rs.foldl (fun t r=>telAdd r t) (telNew a)) = oneC rs a:=by
 have hc : a.k = 1 ∨ 0 ≤ a.c:=may_c ha
 unfold oneC
 by_cases k1 : a.k = 1
 ·have e : telNew a = .cnt ((0 : Nat) : Int):=by unfold telNew; rw [if_pos k1]; rfl
  rw [if_pos k1,e,cnt_fold rs 0 (by omega),Nat.zero_add]
  rfl
 have hc:=hc.resolve_left k1
 have ec : ((a.c.toNat : Nat) : Int) = a.c:=by omega
 rw [if_neg k1]
 unfold oneF
 by_cases k2 : a.k = 2
 ·have e : telNew a = .sum a.c.toNat cellZ:=by unfold telNew; rw [if_neg k1,if_pos k2]
  rw [e]
  have cellS : ∀ r ∈ rs,(atC r a.c).k = 0 ∨ (atC r a.c).k = 1 ∧ (atC r a.c).s = .empty ∧ cellR (atC r a.c):=by
   intro r hrr
   obtain ⟨h1,h2⟩:=hr r hrr
   unfold mayA thereA kindAt at ha
   rw [if_neg k1,if_pos k2] at ha
   simp only [Bool.and_eq_true,decide_eq_true_eq] at ha
   obtain ⟨⟨_,h3⟩,h4⟩:=ha
   have hlen:=rowOk_len h1
   obtain ⟨cc,ecc⟩ : ∃ x,cols[a.c.toNat]? = some x:=⟨_,List.getElem?_eq_getElem (by omega)⟩
   obtain ⟨v,ev⟩ : ∃ x,r[a.c.toNat]? = some x:=⟨_,List.getElem?_eq_getElem (by omega)⟩
   rw [ecc] at h4
   have h4 : cc.kind = 1:=h4
   have hf:=rowOk_at h1 ecc ev
   have hav : atC r a.c = v:=atC_in hc ev
   have hm:=List.mem_of_getElem? ev
   have ok:=rowOk_cell h1 hm
   unfold fitC at hf
   simp only [Bool.and_eq_true,Bool.or_eq_true,decide_eq_true_eq] at hf
   rw [hav]
   rcases hf.2 with h | h
   ·refine .inr ⟨by rw [h,h4],?_,h2 v hm⟩
    rcases cellOk_k ok with ⟨q,_⟩ | ⟨_,q⟩ | ⟨q,_⟩ | ⟨q,_⟩
    ·omega
    ·exact q
    ·omega
    ·omega
   ·exact .inl h.1
  have key : ∀ (rs : List (List CellD)) (v : CellD),(∀ r ∈ rs,(atC r a.c).k = 0 ∨ (atC r a.c).k = 1 ∧ (atC r a.c).s = .empty ∧ cellR (atC r a.c))→(v = cellZ ∨ v.k = 1) →
    telTold (rs.foldl (fun t r=>telAdd r t) (.sum a.c.toNat v)) = rs.foldl (fun o r=>oneS a o (atC r a.c)) v:=by
   intro rs
   induction rs with
   | nil=>intro v _ _; rfl
   | cons r rs ih =>
    intro v hrs hv
    have hx:=hrs r (List.mem_cons_self ..)
    rw [List.foldl_cons,List.foldl_cons]
    have e1 : telAdd r (.sum a.c.toNat v) = .sum a.c.toNat (sumPut v (atC r a.c)):=by simp only [telAdd,ec]
    have e2 : sumPut v (atC r a.c) = oneS a v (atC r a.c):=by
     unfold sumPut oneS
     by_cases q : (atC r a.c).k = 0
     ·rw [if_pos q,if_pos q]
     ·obtain ⟨x1,x2,x3⟩:=hx.resolve_left q
      rw [if_neg q,if_neg q]
      rcases hv with rfl | hv
      ·rw [if_pos (show cellZ.k = 0 from rfl)]
       unfold cellR at x3
       have : IntKind.i64.wrap (cellZ.i + (atC r a.c).i) = (atC r a.c).i:=by
        show IntKind.i64.wrap (0 + _) = _
        rw [Int.zero_add]; exact wr_i64 x3
       rw [this]
       show (⟨(atC r a.c).k,(atC r a.c).i,.empty⟩ : CellD) = _
       rw [← x2]
      ·rw [if_neg (by omega),if_pos k2,x1,hv]
    rw [e1,e2]
    refine ih _ (fun z hz=>hrs z (List.mem_cons_of_mem _ hz)) ?_
    unfold oneS
    by_cases q : (atC r a.c).k = 0
    ·rw [if_pos q]; exact hv
    ·rw [if_neg q]
     by_cases q2 : v.k = 0
     ·rw [if_pos q2]; exact .inr (hx.resolve_left q).1
     ·rw [if_neg q2,if_pos k2]; exact .inr (hv.resolve_left (fun e=>q2 (by rw [e]; rfl)))
  exact key rs cellZ cellS (.inl rfl)
 ·have k34 : a.k = 3 ∨ a.k = 4:=by
   unfold mayA at ha
   rw [if_neg k1,if_neg k2] at ha
   split at ha
   ·assumption
   ·cases ha
  have key : ∀ (s : Int),(s = -1 ∧ a.k = 3 ∨ s = 1 ∧ a.k = 4)→telTold (rs.foldl (fun t r=>telAdd r t) (.most a.c.toNat s cellZ)) = rs.foldl (fun o r=>oneS a o (atC r a.c)) cellZ:=by
   intro s hs
   rw [most_foldT]
   unfold mostF
   rw [List.foldl_map]
   simp only [telTold,ec]
   congr 1
   funext o r
   unfold mostPut oneS
   by_cases q : (atC r a.c).k = 0
   ·rw [if_neg (fun h=>h.1 q),if_pos q]
   ·rw [if_neg q]
    by_cases q2 : o.k = 0
    ·rw [if_pos ⟨q,.inl q2⟩,if_pos q2]
    ·rw [if_neg q2,if_neg k2]
     rcases hs with ⟨rfl,h3⟩ | ⟨rfl,h4⟩
     ·by_cases q3 : (atC r a.c).cmp o < 0
      ·rw [if_pos ⟨q,.inr (by omega)⟩,if_pos (.inl ⟨h3,q3⟩)]
      ·rw [if_neg (fun h=>h.2.elim q2 (fun h=>by omega)),if_neg (fun h=>h.elim (fun h=>q3 h.2) (fun h=>by omega))]
     ·by_cases q3 : (atC r a.c).cmp o > 0
      ·rw [if_pos ⟨q,.inr (by omega)⟩,if_pos (.inr ⟨h4,q3⟩)]
      ·rw [if_neg (fun h=>h.2.elim q2 (fun h=>by omega)),if_neg (fun h=>h.elim (fun h=>by omega) (fun h=>q3 h.2))]
  unfold telNew
  rw [if_neg k1,if_neg k2]
  rcases k34 with h | h
  ·rw [if_pos h]; exact key (-1) (.inl ⟨rfl,h⟩)
  ·rw [if_neg (by omega)]; exact key 1 (.inr ⟨rfl,h⟩)
theorem told_eq {cols : List ColD} {by_ : List Int} {aggs : List AggD} {rows : List (List CellD)} {qs : List GD} (ok : aggsOk cols by_ aggs = true) (hr : ∀ r ∈ rows,rowOk cols r = true ∧ ∀ x ∈ r,cellR x) (hl : rows.length ≤ 1000)
  (hq : qs.Perm (accG aggs by_ rows)) (hs : qs.map (fun x=>bytesB (keyS x.1)) = sortedT ((accG aggs by_ rows).map fun x=>keyS x.1)) : qs.map rowT = toldL by_ aggs rows:=by
 obtain ⟨_,_,_,hmay⟩:=aggsOk_may ok
 have hrel : GRel aggs by_ rows (accG aggs by_ rows):=accG_rel fun r h=>pick_okR (hr r h).1 (hr r h).2 by_
 have hrise:=rise hq hs hrel.nodup hrel.key
 have p1 : (qs.map (·.1)).Pairwise fun a b=>rcmp a b < 0:=List.pairwise_map.2 hrise
 obtain ⟨p2,m2⟩:=keys_spec by_ rows (ks:=if by_ = [] then [[]] else []) (by split <;> simp)
 have hmem : ∀ x,x ∈ qs.map (·.1) ↔ x ∈ keysL by_ rows:=by
  intro x
  unfold keysL
  rw [m2 x]
  constructor
  ·intro h
   obtain ⟨g,hg,rfl⟩:=List.mem_map.1 h
   have hg':=hq.mem_iff.1 hg
   rcases hrel.some_ g hg' with e | ⟨r,hr',e⟩
   ·have hk:=(hrel.key g hg').2
    rw [e] at hk
    refine .inl ?_
    rw [if_pos e,List.mem_singleton]
    exact List.eq_nil_of_length_eq_zero hk
   ·exact .inr ⟨r,hr',e⟩
  ·rintro (h | ⟨r,hr',e⟩)
   ·split at h
    ·rename_i eb
     rw [List.mem_singleton] at h
     subst h
     have h1 : (accG aggs by_ rows).length = 1:=by
      rw [eb]
      obtain ⟨ts,e,_⟩:=accG_all (aggs:=aggs) rows (aggs.map telNew) (by simp)
      have : accG aggs [] rows = [([],ts)]:=e
      rw [this]; rfl
     obtain ⟨g,hg⟩ : ∃ g,g ∈ accG aggs by_ rows:=⟨_,List.getElem_mem (by omega : 0 < _)⟩
     refine List.mem_map.2 ⟨g,hq.mem_iff.2 hg,?_⟩
     have hk:=(hrel.key g hg).2
     rw [eb] at hk
     exact List.eq_nil_of_length_eq_zero hk
    ·cases h
   ·obtain ⟨g,hg,e2⟩:=hrel.has r hr'
    exact List.mem_map.2 ⟨g,hq.mem_iff.2 hg,by rw [e2,e]⟩
 have hkeys : qs.map (·.1) = keysL by_ rows :=
  List.Perm.eq_of_pairwise (le:=fun a b=>rcmp a b < 0) (fun a b _ _ h1 h2=>by have:=rcmp_anti a b; omega) p1 p2 ((List.perm_ext_iff_of_nodup (nodup_of_lt p1) (nodup_of_lt p2)).2 hmem)
 unfold toldL
 rw [← hkeys,List.map_map]
 refine List.map_congr_left fun x hx=>?_
 have hg:=hq.mem_iff.1 hx
 have ht:=hrel.tel x hg
 show x.1 ++ x.2.map telTold = x.1 ++ aggs.map (oneC (rowsAt by_ rows x.1))
 congr 1
 rw [ht]
 unfold telF
 rw [List.map_map]
 refine List.map_congr_left fun a ha=>?_
 have hfl : (rowsAt by_ rows x.1).length ≤ rows.length:=List.length_filter_le _ _
 exact one_eq (hmay a ha) (fun r h=>hr r (by unfold rowsAt at h; exact (List.mem_filter.1 h).1)) (by omega)
end Go.Proofs.Ytgklcfnjahomjaa.Sh
