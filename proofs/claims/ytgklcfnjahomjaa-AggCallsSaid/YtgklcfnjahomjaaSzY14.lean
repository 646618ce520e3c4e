/- What groups tell of which rows: no program in sight. -/
import Derived.Test.YtgklcfnjahomjaaSzY13
set_option linter.unusedVariables false
set_option linter.unusedSimpArgs false
set_option maxRecDepth 100000
namespace Go.Proofs.Ytgklcfnjahomjaa.Sh
open Go Go.RowKit Go.Proofs.Ev Go.Lib
theorem addG_mem (aggs : List AggD) (key row : List CellD) : ∀ {gs : List GD},(∀ x ∈ gs,keyS x.1 = keyS key→x.1 = key)→(gs.map fun x=>keyS x.1).Nodup →
  ∀ x ∈ addG aggs key row gs,(∃ y ∈ gs,y.1 = x.1 ∧ x.2 = if x.1 = key then y.2.map (telAdd row) else y.2) ∨ (x = (key,(aggs.map telNew).map (telAdd row)) ∧ ∀ y ∈ gs,y.1 ≠ key)
 | [],_,_,x,hx=>by
  simp only [addG,List.mem_singleton] at hx
  exact .inr ⟨hx,fun y hy=>by cases hy⟩
 | y :: gs,hi,hn,x,hx=>by
  rw [List.map_cons,List.nodup_cons] at hn
  simp only [addG] at hx
  split at hx
  ·rename_i q
   have hk:=hi y (List.mem_cons_self ..) q
   rcases List.mem_cons.1 hx with rfl | hx
   ·exact .inl ⟨y,List.mem_cons_self ..,rfl,by rw [if_pos hk]⟩
   ·refine .inl ⟨x,List.mem_cons_of_mem _ hx,rfl,?_⟩
    rw [if_neg]
    intro e
    refine hn.1 (List.mem_map.2 ⟨x,hx,?_⟩)
    rw [e,q]
  ·rename_i q
   rcases List.mem_cons.1 hx with rfl | hx
   ·refine .inl ⟨x,List.mem_cons_self ..,rfl,?_⟩
    rw [if_neg (fun e=>q (by rw [e]))]
   ·rcases addG_mem aggs key row (fun z hz=>hi z (List.mem_cons_of_mem _ hz)) hn.2 x hx with ⟨z,hz,h1,h2⟩ | ⟨h1,h2⟩
    ·exact .inl ⟨z,List.mem_cons_of_mem _ hz,h1,h2⟩
    ·refine .inr ⟨h1,fun z hz=>?_⟩
     rcases List.mem_cons.1 hz with rfl | hz
     ·exact fun e=>q (by rw [e])
     ·exact h2 z hz
theorem addG_has (aggs : List AggD) (key row : List CellD) : ∀ {gs : List GD},(∀ x ∈ gs,keyS x.1 = keyS key→x.1 = key)→(∃ x ∈ addG aggs key row gs,x.1 = key) ∧ ∀ y ∈ gs,∃ x ∈ addG aggs key row gs,x.1 = y.1
 | [],_=>⟨⟨_,List.mem_singleton.2 rfl,rfl⟩,fun y hy=>by cases hy⟩
 | z :: gs,hi=>by
  simp only [addG]
  split
  ·rename_i q
   refine ⟨⟨_,List.mem_cons_self ..,hi z (List.mem_cons_self ..) q⟩,fun y hy=>?_⟩
   rcases List.mem_cons.1 hy with rfl | hy
   ·exact ⟨_,List.mem_cons_self ..,rfl⟩
   ·exact ⟨y,List.mem_cons_of_mem _ hy,rfl⟩
  ·obtain ⟨⟨x,h1,h2⟩,h3⟩:=addG_has aggs key row (gs:=gs) fun y hy=>hi y (List.mem_cons_of_mem _ hy)
   refine ⟨⟨x,List.mem_cons_of_mem _ h1,h2⟩,fun y hy=>?_⟩
   rcases List.mem_cons.1 hy with rfl | hy
   ·exact ⟨_,List.mem_cons_self ..,rfl⟩
   ·obtain ⟨w,w1,w2⟩:=h3 y hy
    exact ⟨w,List.mem_cons_of_mem _ w1,w2⟩
def telF (aggs : List AggD) (rs : List (List CellD)) : List Tel:=aggs.map fun a=>rs.foldl (fun t r=>telAdd r t) (telNew a)
theorem telF_snoc (aggs : List AggD) (rs : List (List CellD)) (r : List CellD) : (telF aggs rs).map (telAdd r) = telF aggs (rs ++ [r]):=by
 unfold telF
 rw [List.map_map]
 exact List.map_congr_left fun a _=>by rw [List.foldl_append]; rfl
def rowsAt (by_ : List Int) (rows : List (List CellD)) (key : List CellD) : List (List CellD):=rows.filter fun r=>decide (pickL r by_ = key)
theorem rowsAt_snoc (by_ : List Int) (rows : List (List CellD)) (r key : List CellD) : rowsAt by_ (rows ++ [r]) key = rowsAt by_ rows key ++ if pickL r by_ = key then [r] else []:=by
 unfold rowsAt
 rw [List.filter_append]
 by_cases h : pickL r by_ = key <;> simp [h]
/-- Each group tells of its rows alone; each row has a group. -/
structure GRel (aggs : List AggD) (by_ : List Int) (rows : List (List CellD)) (gs : List GD) : Prop where
 tel : ∀ x ∈ gs,x.2 = telF aggs (rowsAt by_ rows x.1)
 has : ∀ r ∈ rows,∃ x ∈ gs,x.1 = pickL r by_
 some_ : ∀ x ∈ gs,by_ = [] ∨ ∃ r ∈ rows,pickL r by_ = x.1
 key : ∀ x ∈ gs,RowOkR x.1 ∧ x.1.length = by_.length
 nodup : (gs.map fun x=>keyS x.1).Nodup
theorem pick_okR {cols : List ColD} {row : List CellD} (h : rowOk cols row = true) (hr : ∀ x ∈ row,cellR x) (by_ : List Int) : RowOkR (pickL row by_):=by
 intro c hc
 unfold pickL at hc
 obtain ⟨z,hz,rfl⟩:=List.mem_map.1 hc
 unfold atC
 split
 ·cases ex : row[z.toNat]? with
  | none=>exact ⟨rfl,cellZ_R⟩
  | some x=>exact ⟨rowOk_cell h (List.mem_of_getElem? ex),hr x (List.mem_of_getElem? ex)⟩
 ·exact ⟨rfl,cellZ_R⟩
theorem GRel.add {aggs : List AggD} {by_ : List Int} {rows : List (List CellD)} {gs : List GD} (h : GRel aggs by_ rows gs) {r : List CellD} (hr : RowOkR (pickL r by_)) : GRel aggs by_ (rows ++ [r]) (addG aggs (pickL r by_) r gs):=by
 have hl : (pickL r by_).length = by_.length:=by unfold pickL; simp
 have hi : ∀ x ∈ gs,keyS x.1 = keyS (pickL r by_)→x.1 = pickL r by_:=fun x hx e=>keyS_inj (h.key x hx).1 hr (by rw [(h.key x hx).2,hl]) e
 obtain ⟨h1,h2⟩:=addG_has aggs (pickL r by_) r hi
 refine ⟨fun x hx=>?_,fun r' hr'=>?_,fun x hx=>?_,fun x hx=>?_,?_⟩
 ·rcases addG_mem aggs (pickL r by_) r hi h.nodup x hx with ⟨y,hy,e1,e2⟩ | ⟨rfl,hno⟩
  ·have ht:=h.tel y hy
   rw [e1] at ht
   rw [e2,rowsAt_snoc]
   by_cases q : x.1 = pickL r by_
   ·rw [if_pos q,if_pos q.symm,ht,telF_snoc]
   ·rw [if_neg q,if_neg (fun e=>q e.symm),ht,List.append_nil]
  ·have hf : rowsAt by_ rows (pickL r by_) = []:=by
    unfold rowsAt
    rw [List.filter_eq_nil_iff]
    intro z hz
    obtain ⟨y,hy,e⟩:=h.has z hz
    have:=hno y hy
    simp only [decide_eq_true_eq]
    intro e2
    exact this (e.trans e2)
   show (aggs.map telNew).map (telAdd r) = telF aggs (rowsAt by_ (rows ++ [r]) (pickL r by_))
   rw [rowsAt_snoc,if_pos rfl,hf,← telF_snoc]
   rfl
 ·rcases List.mem_append.1 hr' with hr' | hr'
  ·obtain ⟨y,hy,e⟩:=h.has r' hr'
   obtain ⟨x,hx,e2⟩:=h2 y hy
   exact ⟨x,hx,e2.trans e⟩
  ·rw [List.mem_singleton] at hr'
   subst hr'
   exact h1
 ·rcases addG_mem aggs (pickL r by_) r hi h.nodup x hx with ⟨y,hy,e1,e2⟩ | ⟨rfl,hno⟩
  ·rcases h.some_ y hy with h' | ⟨z,hz,e⟩
   ·exact .inl h'
   ·exact .inr ⟨z,List.mem_append.2 (.inl hz),e.trans e1⟩
  ·exact .inr ⟨r,by simp,rfl⟩
 ·rcases addG_mem aggs (pickL r by_) r hi h.nodup x hx with ⟨y,hy,e1,e2⟩ | ⟨rfl,hno⟩
  ·rw [← e1]; exact h.key y hy
  ·exact ⟨hr,hl⟩
 ·rcases addG_keys aggs (pickL r by_) r gs with ⟨e,_⟩ | ⟨e,q⟩
  ·rw [e]; exact h.nodup
  ·rw [e]
   refine List.nodup_append.2 ⟨h.nodup,by simp,fun a ha b hb=>?_⟩
   rw [List.mem_singleton] at hb
   subst hb
   rintro rfl
   exact q ha
theorem newG_rel (aggs : List AggD) (by_ : List Int) : GRel aggs by_ [] (newG aggs by_):=by
 unfold newG
 split
 ·rename_i q
  refine ⟨fun x hx=>?_,fun r hr=>(by cases hr),fun x hx=>.inl q,fun x hx=>?_,by simp⟩
  ·rw [List.mem_singleton] at hx
   subst hx
   rfl
  ·rw [List.mem_singleton] at hx
   subst hx
   exact ⟨fun c hc=>(by cases hc),by simp [q]⟩
 ·exact ⟨fun x hx=>(by cases hx),fun r hr=>(by cases hr),fun x hx=>(by cases hx),fun x hx=>(by cases hx),by simp⟩
theorem accGo_rel {aggs : List AggD} {by_ : List Int} : ∀ (rows pre : List (List CellD)) {gs : List GD},GRel aggs by_ pre gs→(∀ r ∈ rows,RowOkR (pickL r by_))→GRel aggs by_ (pre ++ rows) (accGo aggs by_ gs rows)
 | [],pre,gs,h,_=>by rw [List.append_nil]; exact h
 | r :: rows,pre,gs,h,hr=>by
  have:=accGo_rel rows (pre ++ [r]) (h.add (hr r (List.mem_cons_self ..))) fun x hx=>hr x (List.mem_cons_of_mem _ hx)
  rw [List.append_assoc] at this
  exact this
theorem accG_rel {aggs : List AggD} {by_ : List Int} {rows : List (List CellD)} (hr : ∀ r ∈ rows,RowOkR (pickL r by_)) : GRel aggs by_ rows (accG aggs by_ rows):=accGo_rel rows [] (newG_rel aggs by_) hr
/-! ### The least and the greatest -/
def mostF (s : Int) (z : CellD) (cs : List CellD) : CellD:=cs.foldl (fun o x=>mostPut s o x) z
theorem cnt_fold : ∀ (rs : List (List CellD)) (m : Nat),m + rs.length ≤ 2 ^ 40→rs.foldl (fun t r=>telAdd r t) (.cnt (m : Int)) = .cnt ((m + rs.length : Nat) : Int)
 | [],m,_=>rfl
 | r :: rs,m,h=>by
  simp only [List.length_cons] at h
  rw [List.foldl_cons]
  have : telAdd r (.cnt (m : Int)) = .cnt ((m + 1 : Nat) : Int):=by
   simp only [telAdd]
   congr 1
   rw [wr_i64 (by omega)]
   omega
  rw [this,cnt_fold rs (m + 1) (by omega),List.length_cons]
  congr 2
  omega
theorem most_foldT (c : Nat) (s : Int) : ∀ (rs : List (List CellD)) (v : CellD),rs.foldl (fun t r=>telAdd r t) (.most c s v) = .most c s (mostF s v (rs.map fun r=>atC r c))
 | [],v=>rfl
 | r :: rs,v=>by
  rw [List.foldl_cons]
  show rs.foldl (fun t r=>telAdd r t) (Tel.most c s (mostPut s v (atC r c))) = _
  rw [most_foldT c s rs]
  rfl
/-- A group's row of the law: what the law asks of it. -/
structure GrpLaw (by_ : List Int) (rows : List (List CellD)) (c : Nat) (row : List CellD) (key : List CellD) (lo hi : CellD) : Prop where
 row : row = key ++ [⟨1,((rowsAt by_ rows key).length : Nat),.empty⟩,lo,hi]
 len : key.length = by_.length
 le : lo.cmp hi ≤ 0
 null : lo.k = 0 ↔ hi.k = 0
 least : ∀ r ∈ rowsAt by_ rows key,(atC r c).k ≠ 0→0 ≤ (atC r c).cmp lo ∧ (atC r c).cmp hi ≤ 0
 lows : lo.k = 0 ∨ ∃ r ∈ rowsAt by_ rows key,atC r c = lo
 highs : hi.k = 0 ∨ ∃ r ∈ rowsAt by_ rows key,atC r c = hi
 ne : by_ = [] ∨ rowsAt by_ rows key ≠ []
end Go.Proofs.Ytgklcfnjahomjaa.Sh
