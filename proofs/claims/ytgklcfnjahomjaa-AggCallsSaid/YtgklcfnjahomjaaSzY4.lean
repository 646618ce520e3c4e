/- Aggregates of groups are together those of all rows: no program in sight. -/
import Derived.Test.YtgklcfnjahomjaaSzY3
set_option linter.unusedVariables false
set_option linter.unusedSimpArgs false
set_option maxRecDepth 100000
namespace Go.Proofs.Ytgklcfnjahomjaa.Sh
open Go Go.RowKit Go.Proofs.Ev
/-- A row more. -/
def outAdd (a : AggD) (row : List CellD) (o : CellD) : CellD:=match telNew a with
 | .cnt _=>⟨1,IntKind.i64.wrap (o.i + 1),o.s⟩
 | .sum c _=>sumPut o (atC row c)
 | .most c s _=>mostPut s o (atC row c)
/-- Made of this aggregate. -/
def Shp (a : AggD) (t : Tel) : Prop:=match telNew a,t with
 | .cnt _,.cnt _=>True
 | .sum c _,.sum c' v=>c = c' ∧ (v.k = 0→v = cellZ) ∧ (v.k = 0 ∨ v.k = 1)
 | .most c s _,.most c' s' _=>c = c' ∧ s = s' ∧ (s = 1 ∨ s = -1)
 | _,_=>False
theorem telNew_cases (a : AggD) : telNew a = .cnt 0 ∨ telNew a = .sum a.c.toNat cellZ ∨ telNew a = .most a.c.toNat (-1) cellZ ∨ telNew a = .most a.c.toNat 1 cellZ:=by
 unfold telNew
 split
 ·exact .inl rfl
 ·split
  ·exact .inr (.inl rfl)
  ·split
   ·exact .inr (.inr (.inl rfl))
   ·exact .inr (.inr (.inr rfl))
/-- A row's cell may be summed up. -/
def rowA (a : AggD) (row : List CellD) : Prop:=a.k = 2→(atC row a.c.toNat).k = 0 ∨ (atC row a.c.toNat).k = 1
theorem telNew_sum {a : AggD} {c : Nat} {v : CellD} (h : telNew a = .sum c v) : a.k = 2 ∧ c = a.c.toNat:=by
 unfold telNew at h
 split at h
 ·cases h
 ·split at h
  ·cases h; exact ⟨by assumption,rfl⟩
  ·split at h <;> cases h
theorem shp_add {a : AggD} {t : Tel} (h : Shp a t) {row : List CellD} (hr : rowA a row) : Shp a (telAdd row t):=by
 unfold Shp at *
 rcases telNew_cases a with e | e | e | e
 ·rw [e] at h ⊢; cases t <;> simp only [telAdd] at * 
 ·have hk:=telNew_sum e
  rw [e] at h ⊢; cases t <;> simp only [telAdd] at *
  obtain ⟨h1,h2,h3⟩:=h
  subst h1
  refine ⟨rfl,?_,?_⟩
  ·unfold sumPut
   split
   ·exact h2
   ·intro q; simp only at q; contradiction
  ·unfold sumPut
   split
   ·exact h3
   ·exact hr hk.1
 ·rw [e] at h ⊢; cases t <;> simp only [telAdd] at * <;> exact h
 ·rw [e] at h ⊢; cases t <;> simp only [telAdd] at * <;> exact h
theorem told_add {a : AggD} {t : Tel} (h : Shp a t) (row : List CellD) (hs : a.k = 1→∃ n,t = .cnt n) : telTold (telAdd row t) = outAdd a row (telTold t):=by
 unfold Shp at h
 unfold outAdd
 rcases telNew_cases a with e | e | e | e <;> rw [e] at h ⊢ <;> cases t <;> simp only [telAdd,telTold] at *
 ·obtain ⟨rfl,-⟩:=h; rfl
 ·obtain ⟨rfl,rfl,-⟩:=h; rfl
 ·obtain ⟨rfl,rfl,-⟩:=h; rfl
/-! ### Groups -/
abbrev GD:=List CellD × List Tel
def addG (aggs : List AggD) (key row : List CellD) : List GD→List GD
 | []=>[(key,(aggs.map telNew).map (telAdd row))]
 | x :: gs=>if keyS x.1 = keyS key then (x.1,x.2.map (telAdd row)) :: gs else x :: addG aggs key row gs
def newG (aggs : List AggD) (by_ : List Int) : List GD:=if by_ = [] then [([],aggs.map telNew)] else []
def accG (aggs : List AggD) (by_ : List Int) (rows : List (List CellD)) : List GD:=rows.foldl (fun gs row=>addG aggs (pickL row by_) row gs) (newG aggs by_)
theorem shp_cnt {a : AggD} {t : Tel} (h : Shp a t) (hk : a.k = 1) : ∃ n,t = .cnt n:=by
 have : telNew a = .cnt 0:=by unfold telNew; rw [if_pos hk]
 unfold Shp at h
 rw [this] at h
 cases t with
 | cnt n=>exact ⟨n,rfl⟩
 | sum c v=>exact h.elim
 | most c s v=>exact h.elim
/-- All rows in one group. -/
theorem accG_all {aggs : List AggD} : ∀ (rows : List (List CellD)) (ts : List Tel),ts.length = aggs.length→∃ ts' : List Tel,rows.foldl (fun gs row=>addG aggs (pickL row []) row gs) [([],ts)] = [([],ts')] ∧ ts'.length = aggs.length ∧
  ∀ (j : Nat) (a : AggD) (t : Tel),aggs[j]? = some a→ts[j]? = some t→Shp a t→(∀ r ∈ rows,rowA a r)→(ts'.map telTold)[j]? = some (rows.foldl (fun o row=>outAdd a row o) (telTold t))
 | [],ts,hl=>⟨ts,rfl,hl,fun j a t ha ht _ _=>by simp [ht]⟩
 | r :: rows,ts,hl=>by
  obtain ⟨ts',e1,e2,e3⟩:=accG_all rows (ts.map (telAdd r)) (by simpa using hl)
  have e0 : addG aggs (pickL r []) r [([],ts)] = [([],ts.map (telAdd r))]:=by
   unfold addG
   exact if_pos (show keyS [] = keyS (pickL r []) from rfl)
  refine ⟨ts',by rw [List.foldl_cons,e0]; exact e1,e2,fun j a t ha ht hs hr=>?_⟩
  have h1:=hr r (List.mem_cons_self ..)
  rw [e3 j a (telAdd r t) ha (by simp [ht]) (shp_add hs h1) fun x hx=>hr x (List.mem_cons_of_mem _ hx),List.foldl_cons,told_add hs r (shp_cnt hs)]
end Go.Proofs.Ytgklcfnjahomjaa.Sh
