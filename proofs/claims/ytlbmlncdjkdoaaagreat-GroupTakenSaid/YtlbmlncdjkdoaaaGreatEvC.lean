/- Slices of rows in the abstract memory: read, appended, cut.
Local memory in a shallow function: which blocks are known, step by step.
Structs held against each other.
Slices of rows: read by place, appended to.
A slice that is handed in: its rows lie in the memory of the call's arguments.
Slices of one's own, nil ones too; appended to.
A range over a function, and its rounds.
Stores and ends of rounds that tell what they leave; a slice of one's own beside the blocks of 'L'.
Arithmetic that is decided by what is known; slices of single values.
Rounds of a range over a function, and single values written, in the state that lists a function's own slices.
Slices of single values that are handed in.
Slices that lie in slices: what a cell of a handed-in row tells.
A text, or whatever tells its cells, appended to a slice of one's own.
Slices that are handed in, and how large their texts are.
Short names for the steps, for printed texts. -/
import Derived.Test.YtlbmlncdjkdoaaaGreatEvB
import Derived.SizedLaws
set_option linter.unusedVariables false
set_option linter.unusedSimpArgs false
namespace Go.Proofs.Ev
open Go Go.RowKit
/-- What lay before lies as it did. -/
def Grow (h h' : AH) : Prop:=h.n ≤ h'.n ∧ ∀ i,i < h.n→h'.get i = h.get i
theorem Grow.refl (h : AH) : Grow h h:=⟨Nat.le_refl _,fun _ _=>rfl⟩
theorem Grow.trans {a b c : AH} (h1 : Grow a b) (h2 : Grow b c) : Grow a c:=⟨Nat.le_trans h1.1 h2.1,fun i hi=>(h2.2 i (Nat.lt_of_lt_of_le hi h1.1)).trans (h1.2 i hi)⟩
theorem Grow.alloc (h : AH) (o : AO) : Grow h (h.alloc o):=⟨by simp,fun i hi=>AH.get_alloc_old h o hi⟩
theorem Grow.get {h h' : AH} (g : Grow h h') {i : Nat} {o : AO} (hi : h.get i = some o) : h'.get i = some o:=(g.2 i (AH.get_lt hi)).trans hi
/-- What lay before lies as it did, or lies newly. (From 'n' on all may have turned.) -/
def GrowFrom (n : Nat) (h h' : AH) : Prop:=h.n ≤ h'.n ∧ ∀ i,i < n→h'.get i = h.get i
theorem GrowFrom.refl (n : Nat) (h : AH) : GrowFrom n h h:=⟨Nat.le_refl _,fun _ _=>rfl⟩
theorem GrowFrom.trans {n : Nat} {a b c : AH} (h1 : GrowFrom n a b) (h2 : GrowFrom n b c) : GrowFrom n a c:=⟨Nat.le_trans h1.1 h2.1,fun i hi=>(h2.2 i hi).trans (h1.2 i hi)⟩
theorem Grow.from {n : Nat} {h h' : AH} (g : Grow h h') (hn : n ≤ h.n) : GrowFrom n h h':=⟨g.1,fun i hi=>g.2 i (Nat.lt_of_lt_of_le hi hn)⟩
theorem GrowFrom.grow {h h' : AH} (g : GrowFrom h.n h h') : Grow h h':=g
theorem GrowFrom.set {n i : Nat} (h : AH) (o : AO) (hi : n ≤ i) : GrowFrom n h (h.set i o):=⟨by simp,fun j hj=>AH.get_set_other h o (by omega)⟩
theorem length_flat {n : Nat} : ∀ {rows : List (List Value)},(∀ r ∈ rows,r.length = n)→rows.flatten.length = rows.length * n:=by
 intro rows
 induction rows with
 | nil=>intro _; simp
 | cons r rows ih =>
  intro h
  rw [List.flatten_cons,List.length_append,ih fun x hx=>h x (by simp [hx]),h r (by simp),List.length_cons,Nat.succ_mul,Nat.add_comm]
theorem flat_row {n : Nat} : ∀ {rows : List (List Value)} {i : Nat} {r : List Value},(∀ r ∈ rows,r.length = n)→rows[i]? = some r→(rows.flatten.drop (i * n)).take n = r:=by
 intro rows
 induction rows with
 | nil=>intro i r _ h; simp at h
 | cons q rows ih =>
  intro i r hn h
  have hq:=hn q (by simp)
  cases i with
  | zero =>
   simp only [List.getElem?_cons_zero,Option.some.injEq] at h
   subst h
   simp [← hq]
  | succ i =>
   simp only [List.getElem?_cons_succ] at h
   rw [List.flatten_cons,Nat.succ_mul,Nat.add_comm,← hq,← List.drop_drop,List.drop_left,hq]
   exact ih (fun x hx=>hn x (by simp [hx])) h
/-- Rows that lie in a block from a place on. -/
structure Lie (P : Program) (h : AH) (b off n : Nat) (own : Bool) (rows : List (List Value)) : Prop where
 lies : ∃ cs e,h.get b = some (.cells cs e own) ∧ (rows ≠ []→off + rows.length * n ≤ cs.length ∧ (cs.drop off).take (rows.length * n) = rows.flatten)
 wide : ∀ r ∈ rows,r.length = n
theorem Lie.row {P : Program} {h : AH} {b off n : Nat} {own : Bool} {rows : List (List Value)} (L : Lie P h b off n own rows) {i : Nat} {r : List Value} (hi : rows[i]? = some r) : h.row b (off + i * n) n = some r:=by
 obtain ⟨⟨cs,e,h1,h2⟩,h5⟩:=L
 have hlt : i < rows.length:=(List.getElem?_eq_some_iff.1 hi).1
 obtain ⟨h3,h4⟩:=h2 (by rintro rfl; simp at hlt)
 have hle : (i + 1) * n ≤ rows.length * n:=Nat.mul_le_mul_right n hlt
 rw [Nat.succ_mul] at hle
 unfold AH.row
 rw [h1]
 simp only
 rw [if_pos (by omega)]
 have:=flat_row h5 hi
 rw [← h4,List.drop_take,List.take_take,List.drop_drop] at this
 rw [Nat.min_eq_left (by omega)] at this
 rw [this]
theorem Lie.cell {P : Program} {h : AH} {b off : Nat} {own : Bool} {rows : List (List Value)} (L : Lie P h b off 1 own rows) {i : Nat} {v : Value} (hi : rows[i]? = some [v]) : h.cell b (off + i) = some v:=by
 have:=L.row hi
 unfold AH.row at this
 unfold AH.cell
 split at this
 ·rename_i cs e o hg
  rw [Nat.mul_one] at this
  split at this
  ·rename_i hle
   simp only [Option.some.injEq] at this
   have h0 : ((cs.drop (off + i)).take 1)[0]? = some v:=by rw [this]; rfl
   rw [List.getElem?_take_of_lt (by omega),List.getElem?_drop] at h0
   exact h0
  ·cases this
 ·cases this
theorem Lie.flat {P : Program} {h : AH} {b off n : Nat} {own : Bool} {rows : List (List Value)} (L : Lie P h b off n own rows) (hne : rows ≠ []) : h.row b off (rows.length * n) = some rows.flatten:=by
 obtain ⟨⟨cs,e,h1,h2⟩,h5⟩:=L
 obtain ⟨h3,h4⟩:=h2 hne
 unfold AH.row
 rw [h1]
 simp only
 rw [if_pos h3,h4]
theorem Lie.grow {P : Program} {h h' : AH} {b off n : Nat} {own : Bool} {rows : List (List Value)} (L : Lie P h b off n own rows) (g : h'.get b = h.get b) : Lie P h' b off n own rows:=by
 obtain ⟨⟨cs,e,h1,h2⟩,h5⟩:=L
 exact ⟨⟨cs,e,g.trans h1,h2⟩,h5⟩
theorem Lie.lt {P : Program} {h : AH} {b off n : Nat} {own : Bool} {rows : List (List Value)} (L : Lie P h b off n own rows) : b < h.n:=by
 obtain ⟨⟨cs,e,h1,_⟩,_⟩:=L
 exact AH.get_lt h1
theorem flat_take_drop {n : Nat} {rows : List (List Value)} (hn : ∀ r ∈ rows,r.length = n) (i m : Nat) : ((rows.drop i).take m).flatten = (rows.flatten.drop (i * n)).take (((rows.drop i).take m).length * n):=by
 induction rows generalizing i m with
 | nil=>simp
 | cons r rows ih =>
  have hr:=hn r (by simp)
  have hn' : ∀ x ∈ rows,x.length = n:=fun x hx=>hn x (by simp [hx])
  cases i with
  | succ i =>
   rw [List.drop_succ_cons,List.flatten_cons,Nat.succ_mul,Nat.add_comm,← hr,← List.drop_drop,List.drop_left,hr]
   exact ih hn' i m
  | zero =>
   cases m with
   | zero=>simp
   | succ m =>
    have:=ih hn' 0 m
    simp only [List.drop_zero,Nat.zero_mul] at this ⊢
    rw [List.take_succ_cons,List.flatten_cons,List.flatten_cons,List.length_cons,Nat.succ_mul,Nat.add_comm,← hr,List.take_length_add_append,hr,this]
/-- A part of what lies. -/
theorem Lie.part {P : Program} {h : AH} {b off n : Nat} {own : Bool} {rows : List (List Value)} (L : Lie P h b off n own rows) (i m : Nat) (hi : i ≤ rows.length) : Lie P h b (off + i * n) n own ((rows.drop i).take m):=by
 obtain ⟨⟨cs,e,h1,h2⟩,h5⟩:=L
 have hlen : ((rows.drop i).take m).length ≤ rows.length - i:=by simp; omega
 have hmul : ((rows.drop i).take m).length * n + i * n ≤ rows.length * n:=by
  rw [← Nat.add_mul]; exact Nat.mul_le_mul_right n (by omega)
 refine ⟨⟨cs,e,h1,fun hne=>?_⟩,fun r hr=>h5 r (List.mem_of_mem_drop (List.mem_of_mem_take hr))⟩
 obtain ⟨h3,h4⟩:=h2 (by rintro rfl; simp at hne)
 refine ⟨by omega,?_⟩
 rw [flat_take_drop h5,← h4,List.drop_take,List.take_take,List.drop_drop,Nat.min_eq_left (by omega)]
/-- A slice of rows. -/
def SlV (P : Program) (h : AH) (v : Value) (n : Nat) (rows : List (List Value)) : Prop :=
 v = .slice none 0 0 ∧ rows = [] ∨ ∃ b off cap own,v = .slice (some ⟨b,off,none⟩) rows.length cap ∧ rows.length ≤ cap ∧ Lie P h b off n own rows
theorem SlV.grow {P : Program} {h h' : AH} {v : Value} {n : Nat} {rows : List (List Value)} (S : SlV P h v n rows) (g : Grow h h') : SlV P h' v n rows:=by
 rcases S with S | ⟨b,off,cap,own,h1,h2,L⟩
 ·exact .inl S
 ·exact .inr ⟨b,off,cap,own,h1,h2,L.grow (g.2 b L.lt)⟩
theorem SlV.form {P : Program} {h : AH} {v : Value} {n : Nat} {rows : List (List Value)} (S : SlV P h v n rows) : ∃ a cap,v = .slice a rows.length cap ∧ rows.length ≤ cap:=by
 rcases S with ⟨rfl,rfl⟩ | ⟨b,off,cap,own,h1,h2,L⟩
 ·exact ⟨_,_,rfl,Nat.le_refl _⟩
 ·exact ⟨_,_,h1,h2⟩
/-- What 'cellsOf' tells of the whole of it. -/
theorem SlV.cellsOf {P : Program} {h : AH} {v : Value} {n : Nat} {rows : List (List Value)} (S : SlV P h v n rows) (hn : 0 < n) : cellsOf P n rows.length v h = some rows.flatten:=by
 rcases S with ⟨rfl,rfl⟩ | ⟨b,off,cap,own,h1,h2,L⟩
 ·rfl
 ·subst h1
  unfold Ev.cellsOf
  simp only
  by_cases hz : rows.length * n = 0
  ·rw [if_pos hz]
   have : rows = []:=by
    rcases Nat.mul_eq_zero.1 hz with h | h
    ·exact List.length_eq_zero_iff.1 h
    ·omega
   subst this; rfl
  ·rw [if_neg hz,if_pos (Nat.le_refl _)]
   exact L.flat (by rintro rfl; simp at hz)
end Go.Proofs.Ev
set_option linter.unusedVariables false
set_option linter.unusedSimpArgs false
namespace Go.Proofs.Ev
open Go Go.RowKit
variable {α β : Type} {P : Program}
def Mem (h : AH) : List (Nat × AO)→Prop
 | []=>True
 | p :: L=>h.get p.1 = some p.2 ∧ Mem h L
theorem Mem.at_ {h : AH} : ∀ {L : List (Nat × AO)} {i : Nat} {p : Nat × AO},Mem h L→L[i]? = some p→h.get p.1 = some p.2
 | [],_,_,_,hi=>by simp at hi
 | q :: L,0,p,m,hi=>by simp at hi; subst hi; exact m.1
 | q :: L,i + 1,p,m,hi=>Mem.at_ m.2 (by simpa using hi)
theorem Mem.keep {h h' : AH} : ∀ {L : List (Nat × AO)},Mem h L→(∀ p ∈ L,h'.get p.1 = h.get p.1)→Mem h' L
 | [],_,_=>trivial
 | q :: L,m,hk=>⟨(hk q (by simp)).trans m.1,Mem.keep m.2 fun p hp=>hk p (by simp [hp])⟩
theorem Mem.lt {h : AH} : ∀ {L : List (Nat × AO)},Mem h L→∀ p ∈ L,p.1 < h.n
 | [],_,_,hp=>by cases hp
 | q :: L,m,p,hp=>by
  rcases List.mem_cons.1 hp with rfl | hp
  ·exact AH.get_lt m.1
  ·exact Mem.lt m.2 p hp
/-- The state in a function: below 'n0' nothing has turned; these blocks of its own are known. -/
structure Sta (n0 : Nat) (h0 h : AH) (L : List (Nat × AO)) : Prop where
 grow : GrowFrom n0 h0 h
 base : n0 ≤ h0.n
 mem : Mem h L
 new : ∀ p ∈ L,n0 ≤ p.1
 nodup : (L.map (·.1)).Nodup
theorem Sta.init (h : AH) : Sta h.n h h []:=⟨GrowFrom.refl _ _,Nat.le_refl _,trivial,fun p hp=>(by cases hp),by simp⟩
theorem Sta.size {n0 : Nat} {h0 h : AH} {L : List (Nat × AO)} (S : Sta n0 h0 h L) : n0 ≤ h.n:=Nat.le_trans S.base S.grow.1
theorem Sta.done {h0 h : AH} {L : List (Nat × AO)} (S : Sta h0.n h0 h L) : Grow h0 h:=S.grow
theorem Sta.alloc {n0 : Nat} {h0 h : AH} {L : List (Nat × AO)} (S : Sta n0 h0 h L) (o : AO) : Sta n0 h0 (h.alloc o) ((h.n,o) :: L):=by
 refine ⟨S.grow.trans ((Grow.alloc h o).from S.size),S.base,⟨AH.get_alloc_new h o,S.mem.keep fun p hp=>AH.get_alloc_old h o (S.mem.lt p hp)⟩,fun p hp=>?_,?_⟩
 ·rcases List.mem_cons.1 hp with rfl | hp
  ·exact S.size
  ·exact S.new p hp
 ·rw [List.map_cons,List.nodup_cons]
  refine ⟨fun hc=>?_,S.nodup⟩
  obtain ⟨p,hp,he⟩:=List.mem_map.1 hc
  have:=S.mem.lt p hp
  omega
theorem Sta.call {n0 : Nat} {h0 h h' : AH} {L : List (Nat × AO)} (S : Sta n0 h0 h L) (g : Grow h h') : Sta n0 h0 h' L :=
 ⟨S.grow.trans (g.from S.size),S.base,S.mem.keep fun p hp=>g.2 _ (S.mem.lt p hp),S.new,S.nodup⟩
theorem Mem.set {h : AH} {i : Nat} {b : Nat} {o' : AO} : ∀ {L : List (Nat × AO)} {j : Nat} {o : AO},Mem h L→(L.map (·.1)).Nodup→L[j]? = some (b,o)→Mem (h.set b o') (L.set j (b,o'))
 | [],_,_,_,_,hi=>by simp at hi
 | q :: L,0,o,m,nd,hi=>by
  simp at hi
  subst hi
  rw [List.map_cons,List.nodup_cons] at nd
  refine ⟨AH.get_set_same h o' o m.1,Mem.keep m.2 fun p hp=>AH.get_set_other h o' ?_⟩
  rintro rfl
  exact nd.1 (List.mem_map.2 ⟨p,hp,rfl⟩)
 | q :: L,j + 1,o,m,nd,hi=>by
  rw [List.map_cons,List.nodup_cons] at nd
  have hi' : L[j]? = some (b,o):=by simpa using hi
  refine ⟨(AH.get_set_other h o' ?_).trans m.1,Mem.set (i:=i) m.2 nd.2 hi'⟩
  rintro rfl
  exact nd.1 (List.mem_map.2 ⟨_,List.mem_of_getElem? hi',rfl⟩)
theorem Sta.set {n0 : Nat} {h0 h : AH} {L : List (Nat × AO)} (S : Sta n0 h0 h L) (i : Nat) {b : Nat} {o : AO} (hi : L[i]? = some (b,o)) (o' : AO) : Sta n0 h0 (h.set b o') (L.set i (b,o')):=by
 have hm : (b,o) ∈ L:=List.mem_of_getElem? hi
 refine ⟨S.grow.trans (GrowFrom.set h o' (S.new _ hm)),S.base,Mem.set (i:=i) S.mem S.nodup hi,fun p hp=>?_,?_⟩
 ·rcases List.mem_or_eq_of_mem_set hp with hp | rfl
  ·exact S.new p hp
  ·exact (S.new (b,o) hm : n0 ≤ b)
 ·rw [List.map_set]
  have : (L.map (·.1)).set i b = L.map (·.1):=by
   refine List.ext_getElem? fun k=>?_
   rw [List.getElem?_set]
   split
   ·rename_i hk
    subst hk
    have hlt : i < L.length:=(List.getElem?_eq_some_iff.1 hi).1
    simp [hlt,List.getElem?_map,hi]
    have:=(List.getElem?_eq_some_iff.1 hi).2
    rw [this]
   ·rfl
  simpa [this] using S.nodup
/-- What is not known any more. -/
theorem Sta.drop {n0 : Nat} {h0 h : AH} {L : List (Nat × AO)} {p : Nat × AO} (S : Sta n0 h0 h (p :: L)) : Sta n0 h0 h L :=
 ⟨S.grow,S.base,S.mem.2,fun q hq=>S.new q (by simp [hq]),(List.nodup_cons.1 (by simpa using S.nodup)).2⟩
section
variable {n0 : Nat} {h0 h : AH} {L : List (Nat × AO)} {t : TypeId} {Q : β→Prop}
theorem Tl.box {v : Value} {K : Value × AH→Option β} (S : Sta n0 h0 h L) (hk : kn v = true) (hs : (szT P t).isSome = true) (hn : ∀ b h',Sta n0 h0 h' ((b,.cells v.cells.toList t true) :: L)→Grow h h'→Tl (K (.pointer (some ⟨b,0,none⟩),h')) Q) :
  Tl (Ev.bnd (pBox P t v h) K) Q:=by
 unfold pBox
 rw [hk,hs]
 exact hn _ _ (S.alloc _) (Grow.alloc _ _)
theorem Tl.alloc {z : Value} {K : Value × AH→Option β} (S : Sta n0 h0 h L) (hz : zeroT P t = some z) (hp : plain z = true) (hn : ∀ b h',Sta n0 h0 h' ((b,.cells z.cells.toList t true) :: L)→Grow h h'→Tl (K (.pointer (some ⟨b,0,none⟩),h')) Q) :
  Tl (Ev.bnd (pAlloc P t h) K) Q:=by
 unfold pAlloc
 rw [hz]
 simp only
 rw [if_pos hp]
 exact hn _ _ (S.alloc _) (Grow.alloc _ _)
theorem Tl.store {x : Value} {K : Value × AH→Option β} {o b n : Nat} {vs : List Value} {e : TypeId} (S : Sta n0 h0 h L) (i : Nat) (hi : L[i]? = some (b,.cells vs e true)) (hs : szT P t = some n) (hn : x.cells.size = n) (hx : x.cells.toList.all oneCell = true)
  (hl : o + n ≤ vs.length) (hk : ∀ h',Sta n0 h0 h' (L.set i (b,.cells (splice vs o x.cells.toList) e true))→Tl (K (unk,h')) Q) :
  Tl (Ev.bnd (kSt (pStore P t (.pointer (some ⟨b,o,none⟩)) x h)) K) Q:=by
 unfold pStore
 simp only
 rw [hs,hx,← hn]
 simp only [Bool.true_and,beq_self_eq_true,if_true]
 have hg : h.get b = some (.cells vs e true):=S.mem.at_ hi
 unfold AH.put
 rw [hg]
 simp only
 rw [if_pos (by rw [Array.length_toList,hn]; exact hl)]
 exact hk _ (S.set i hi _)
theorem Tl.call {v : Value} {o : Option (Value × AH)} {K : Value × AH→Option β} (S : Sta n0 h0 h L) (C : Tl o fun r=>r.1 = v ∧ Grow h r.2) (hk : ∀ h',Sta n0 h0 h' L→Grow h h'→Tl (K (v,h')) Q) : Tl (Ev.bnd o K) Q:=by
 obtain ⟨⟨v',h'⟩,rfl,rfl,g⟩:=C
 exact hk h' (S.call g) g
theorem Tl.bool {c : Bool} {o : Option Value} {K : Value→Option β} (ho : o = some (.bool c)) (ht : c = true→Tl (K (.bool true)) Q) (hf : c = false→Tl (K (.bool false)) Q) : Tl (Ev.bnd o K) Q:=by
 subst ho
 cases c
 ·exact hf rfl
 ·exact ht rfl
theorem Tl.val {v : α} {o : Option α} {K : α→Option β} (ho : o = some v) (hk : Tl (K v) Q) : Tl (Ev.bnd o K) Q:=by
 subst ho
 exact hk
end
theorem Tl.gd_on {c : Bool} {h : AH} {s : Option (Value × AH)} {K : Value × AH→Option β} {Q : β→Prop} (hk : Tl (Ev.bnd s K) Q) : Tl (Ev.bnd (gd (some (.bool c)) c h s) K) Q:=by
 cases c <;> exact hk
theorem Tl.gd3_on {c : Bool} {h : AH} {s : Option (Value × AH)} {K : Value × AH × Bool→Option β} {Q : β→Prop} (hk : Tl (Ev.bnd s fun p=>K (p.1,p.2,true)) Q) : Tl (Ev.bnd (gd3 (some (.bool c)) c h s) K) Q:=by
 cases s <;> cases c <;> exact hk
theorem Tl.brT {t e : Option β} {Q : β→Prop} (h : Tl t Q) : Tl (brV (.bool true) t e) Q:=h
theorem Tl.brF {t e : Option β} {Q : β→Prop} (h : Tl e Q) : Tl (brV (.bool false) t e) Q:=h
theorem Tl.chk {c : Bool} {x : Option β} {Q : β→Prop} (hc : c = true) (h : Tl x Q) : Tl (chkK c x) Q:=by subst hc; exact h
/-- Loads of known blocks. -/
theorem cell_of {h : AH} {b o : Nat} {vs : List Value} {e : TypeId} {own : Bool} (hg : h.get b = some (.cells vs e own)) : h.cell b o = vs[o]?:=by
 unfold AH.cell
 rw [hg]
theorem row_of {h : AH} {b o n : Nat} {vs : List Value} {e : TypeId} {own : Bool} (hg : h.get b = some (.cells vs e own)) : h.row b o n = if o + n ≤ vs.length then some ((vs.drop o).take n) else none:=by
 unfold AH.row
 rw [hg]
theorem gd_tt {h : AH} {s : Option (Value × AH)} : gd (some (.bool true)) true h s = s:=rfl
theorem gd_ff {h : AH} {s : Option (Value × AH)} : gd (some (.bool false)) false h s = s:=rfl
theorem gd_tf {h : AH} {s : Option (Value × AH)} : gd (some (.bool true)) false h s = some (skipped,h):=rfl
theorem gd_ft {h : AH} {s : Option (Value × AH)} : gd (some (.bool false)) true h s = some (skipped,h):=rfl
theorem gd_sk {h : AH} {w : Bool} {s : Option (Value × AH)} : gd (some skipped) w h s = some (skipped,h):=rfl
theorem gd3_tt {h : AH} {s : Option (Value × AH)} : gd3 (some (.bool true)) true h s = s.map fun p=>(p.1,p.2,true):=by unfold gd3; cases s <;> rfl
theorem gd3_ff {h : AH} {s : Option (Value × AH)} : gd3 (some (.bool false)) false h s = s.map fun p=>(p.1,p.2,true):=by unfold gd3; cases s <;> rfl
theorem gd3_tf {h : AH} {s : Option (Value × AH)} : gd3 (some (.bool true)) false h s = some (skipped,h,false):=rfl
theorem gd3_ft {h : AH} {s : Option (Value × AH)} : gd3 (some (.bool false)) true h s = some (skipped,h,false):=rfl
theorem gd3_sk {h : AH} {w : Bool} {s : Option (Value × AH)} : gd3 (some skipped) w h s = some (skipped,h,false):=rfl
theorem pick_t {u v : Value} : pickV (.bool true) u v = some u:=rfl
theorem pick_f {u v : Value} : pickV (.bool false) u v = some v:=rfl
theorem lt_some {v : Value} {h : AH} : lt (some v) h = some (v,h):=rfl
theorem chkK_t {x : Option β} : chkK true x = x:=rfl
theorem sameO_some {u v : Value} : sameO (some u) v = sameV u v:=rfl
theorem sameV_int {k : IntKind} {a : Int} : sameV (.int k a) (.int k a) = true:=by simp [sameV,same0]
theorem beqB (s : ByteArray) : (s == s) = true:=by
 first | exact beq_self_eq_true s | (obtain ⟨⟨l⟩⟩:=s; first | exact beq_self_eq_true (α:=Array UInt8) _ | exact decide_eq_true rfl | simp [BEq.beq])
theorem sameV_string {s : ByteArray} : sameV (.string s) (.string s) = true:=beqB s
end Go.Proofs.Ev
set_option linter.unusedVariables false
set_option linter.unusedSimpArgs false
namespace Go.Proofs.Ev
open Go Go.RowKit
variable {P : Program}
theorem prun_program : prun P program = some P:=rfl
def prunFields (P : Program) (d : Nat) (xs ys : Array Value) : List Field→Option Bool
 | []=>some true
 | f :: fs => if f.name ≠ "_" then (prun P (part f.type xs f.offset)).bind fun a => (prun P (part f.type ys f.offset)).bind fun b => (prun P (Op.equalIn d f.type a b)).bind fun r =>
   bif r then prunFields P d xs ys fs else some false
  else prunFields P d xs ys fs
theorem prun_equal_struct {d : Nat} {t : TypeId} {xs ys : Array Value} (ht : P.underlying t = some (.struct (P.fieldsOf t))) (hp : P.stoodInHeld t = false) :
  prun P (Op.equalIn (d + 1) t (.agg xs) (.agg ys)) = prunFields P d xs ys (P.fieldsOf t).toList:=by
 unfold Op.equalIn
 rw [prun_und' ht]
 simp only [prun_bind,prun_program,Option.bind_some,hp,Bool.false_eq_true,if_false]
 rw [← Array.forIn_toList]
 generalize (P.fieldsOf t).toList = fs
 clear ht
 induction fs with
 | nil=>rfl
 | cons f fs ih =>
  simp only [List.forIn_cons,prunFields,prun_bind]
  split
  ·simp only [prun_bind]
   cases prun P (part f.type xs f.offset) with
   | none=>rfl
   | some a =>
    simp only [Option.bind_some]
    cases prun P (part f.type ys f.offset) with
    | none=>rfl
    | some b =>
     simp only [Option.bind_some]
     cases prun P (Op.equalIn d f.type a b) with
     | none=>rfl
     | some r =>
      cases r
      ·rfl
      ·simp only [Option.bind_some,Bool.not_true,Bool.false_eq_true,if_false,prun_pure,cond_true]
       exact ih
  ·simp only [prun_pure,Option.bind_some]
   exact ih
theorem prun_equal_int {d : Nat} {t : TypeId} {k k' : IntKind} {a b : Int} (h : P.underlying t = some (.int k')) : prun P (Op.equalIn (d + 1) t (.int k a) (.int k b)) = some (a == b):=by
 unfold Op.equalIn
 rw [prun_und' h]
 simp only [if_true]
 rfl
theorem prun_equal_bool {d : Nat} {t : TypeId} {a b : Bool} (h : P.underlying t = some .bool) : prun P (Op.equalIn (d + 1) t (.bool a) (.bool b)) = some (a == b):=by
 unfold Op.equalIn
 rw [prun_und' h]
 rfl
theorem prun_equal_string {d : Nat} {t : TypeId} {a b : ByteArray} (h : P.underlying t = some .string) : prun P (Op.equalIn (d + 1) t (.string a) (.string b)) = some (a == b):=by
 unfold Op.equalIn
 rw [prun_und' h]
 rfl
theorem prun_guard_agg {op : BinOp} (hop : op = .eql ∨ op = .neq) {t : TypeId} {ox oy : Operand} {xs ys : Array Value} (hg : P.eqGuardType P.depth t = false) : prun P (eqGuard op t ox oy (.agg xs) (.agg ys)) = some ():=by
 rcases hop with rfl | rfl <;> unfold eqGuard <;> simp only [Bool.not_true,Bool.false_eq_true,if_false,prun_bind,prun_program,Option.bind_some,hg,Bool.not_false,if_true] <;> rfl
theorem bin_eql_agg {t : TypeId} {ox oy : Operand} {xs ys : Array Value} {r : Bool} (h1 : plain (.agg xs) = true) (h2 : plain (.agg ys) = true) (hg : P.eqGuardType P.depth t = false) (he : prun P (Op.equalIn 10000 t (.agg xs) (.agg ys)) = some r) :
  pBin P .eql t ox oy (.agg xs) (.agg ys) = some (.bool r):=by
 unfold pBin
 rw [h1,h2]
 simp only [Bool.and_self,if_true]
 have : prun P (do eqGuard .eql t ox oy (.agg xs) (.agg ys); binOp .eql t (.agg xs) (.agg ys)) = some (.bool r):=by
  rw [prun_bind,prun_guard_agg (.inl rfl) hg]
  refine (prun_bind (Op.equalIn 10000 t (.agg xs) (.agg ys)) _).trans ?_
  rw [he]
  rfl
 rw [this]
 rfl
theorem bin_neq_agg {t : TypeId} {ox oy : Operand} {xs ys : Array Value} {r : Bool} (h1 : plain (.agg xs) = true) (h2 : plain (.agg ys) = true) (hg : P.eqGuardType P.depth t = false) (he : prun P (Op.equalIn 10000 t (.agg xs) (.agg ys)) = some r) :
  pBin P .neq t ox oy (.agg xs) (.agg ys) = some (.bool (!r)):=by
 unfold pBin
 rw [h1,h2]
 simp only [Bool.and_self,if_true]
 have : prun P (do eqGuard .neq t ox oy (.agg xs) (.agg ys); binOp .neq t (.agg xs) (.agg ys)) = some (.bool (!r)):=by
  rw [prun_bind,prun_guard_agg (.inr rfl) hg]
  refine (prun_bind (Op.equalIn 10000 t (.agg xs) (.agg ys)) _).trans ?_
  rw [he]
  rfl
 rw [this]
 rfl
theorem bin_eql_bool {t : TypeId} {ox oy : Operand} {a b : Bool} (h : P.underlying t = some .bool) : pBin P .eql t ox oy (.bool a) (.bool b) = some (.bool (a == b)):=by
 unfold pBin
 have : prun P (do eqGuard .eql t ox oy (.bool a) (.bool b); binOp .eql t (.bool a) (.bool b)) = some (.bool (a == b)):=by
  rw [prun_bind]
  refine (prun_bind (Op.equalIn 10000 t (.bool a) (.bool b)) _).trans ?_
  rw [prun_equal_bool h]
  rfl
 rw [this]
 rfl
theorem bin_neq_bool {t : TypeId} {ox oy : Operand} {a b : Bool} (h : P.underlying t = some .bool) : pBin P .neq t ox oy (.bool a) (.bool b) = some (.bool (!(a == b))):=by
 unfold pBin
 have : prun P (do eqGuard .neq t ox oy (.bool a) (.bool b); binOp .neq t (.bool a) (.bool b)) = some (.bool (!(a == b))):=by
  rw [prun_bind]
  refine (prun_bind (Op.equalIn 10000 t (.bool a) (.bool b)) _).trans ?_
  rw [prun_equal_bool h]
  rfl
 rw [this]
 rfl
theorem un_neg {k : IntKind} {a : Int} : pUn P .neg (.int k a) = some (.int k (k.wrap (0 - a))):=by cases k <;> rfl
theorem beqB_dec (s t : ByteArray) : (s == t) = decide (s = t):=by
 by_cases h : s = t
 ·rw [h,beqB]; simp
 ·simp only [h,decide_false]
  cases hc : (s == t) with
  | false=>rfl
  | true =>
   obtain ⟨x⟩:=s
   obtain ⟨y⟩:=t
   have : (x == y) = true:=hc
   exact absurd (by rw [eq_of_beq this]) h
end Go.Proofs.Ev
set_option linter.unusedVariables false
set_option linter.unusedSimpArgs false
namespace Go.Proofs.Ev
open Go Go.RowKit
variable {P : Program}
theorem cell_of_row {h : AH} {b o n j : Nat} {r : List Value} (hr : h.row b o n = some r) (hj : j < n) : h.cell b (o + j) = r[j]?:=by
 unfold AH.row at hr
 unfold AH.cell
 split at hr
 ·rename_i cs e own hg
  split at hr
  ·rename_i hle
   simp only [Option.some.injEq] at hr
   subst hr
   rw [List.getElem?_take_of_lt hj,List.getElem?_drop]
  ·cases hr
 ·cases hr
/-- A row of a slice: where it is, and what is read there. -/
theorem SlV.at_ {h : AH} {v : Value} {n : Nat} {rows : List (List Value)} (S : SlV P h v n rows) {t e : TypeId} {k : IntKind} {i : Nat} {r : List Value} (hi : rows[i]? = some r) (ht : P.underlying t = some (.slice e)) (hs : szT P e = some n) :
  ∃ b o,pIndexAddr P t v (.int k i) = some (.pointer (some ⟨b,o,none⟩)) ∧ h.row b o n = some r:=by
 have hlt : i < rows.length:=(List.getElem?_eq_some_iff.1 hi).1
 rcases S with ⟨rfl,rfl⟩ | ⟨b,off,cap,own,rfl,h2,L⟩
 ·simp at hi
 ·exact ⟨b,off + i * n,(indexAddr_slice ht hs (by omega) (by omega)).trans (by simp),L.row hi⟩
theorem SlV.len {h : AH} {v : Value} {n : Nat} {rows : List (List Value)} (S : SlV P h v n rows) {t e : TypeId} (ht : P.underlying t = some (.slice e)) {h' : AH} : pLen P #[t] v h' = some (.int .i64 rows.length):=by
 obtain ⟨a,cap,rfl,_⟩:=S.form
 exact len_slice ht
/-- A slice of one's own that fills its block. -/
structure SlX (P : Program) (h : AH) (v : Value) (n b : Nat) (rows : List (List Value)) : Prop where
 form : v = .slice (some ⟨b,0,none⟩) rows.length rows.length
 lie : Lie P h b 0 n true rows
 sz : szOk P (some ⟨b,0,none⟩) n h = true
theorem SlX.slV {h : AH} {v : Value} {n b : Nat} {rows : List (List Value)} (S : SlX P h v n b rows) : SlV P h v n rows:=.inr ⟨b,0,rows.length,true,S.form,Nat.le_refl _,S.lie⟩
theorem SlX.keep {h h' : AH} {v : Value} {n b : Nat} {rows : List (List Value)} (S : SlX P h v n b rows) (g : h'.get b = h.get b) : SlX P h' v n b rows:=⟨S.form,S.lie.grow g,by have:=S.sz; unfold szOk at *; simp only at *; rw [g]; exact this⟩
/-- The types that an append of a slice asks of. -/
structure AppT (P : Program) (ts : Array TypeId) (e n bytes : Nat) : Prop where
 elem : ts[0]?.bind (elemT P) = some e
 other : ∃ e',ts[1]?.bind P.underlying = some (.slice e')
 size : szT P e = some n
 pos : 0 < n
 byt : bytesT P e = some bytes
 zero : ∃ z,zeroT P e = some z ∧ z.cells.toList.all plain0 = true ∧ z.cells.size = n
theorem isIntT_slice (e : TypeId) : isIntT (.slice e) = false:=rfl
theorem kill_get {h : AH} {b o i : Nat} (hi : i ≠ b) : (kill h b o).get i = h.get i:=by
 unfold kill
 split
 ·split
  ·exact AH.get_set_other h _ (fun h=>hi h.symm)
  ·rfl
 ·rfl
theorem lenE_of {h : AH} {v : Value} {n : Nat} {rows : List (List Value)} (S : SlV P h v n rows) : lenE v = some rows.length:=by
 obtain ⟨a,cap,rfl,_⟩:=S.form
 rfl
theorem szOk_of {h : AH} {b n : Nat} {cs : List Value} {e : TypeId} {own : Bool} (hg : h.get b = some (.cells cs e own)) (hs : szT P e = some n) : szOk P (some ⟨b,0,none⟩) n h = true:=by
 unfold szOk
 simp [hg,hs]
/-- More than fits: new memory. -/
theorem append_new {ts : Array TypeId} {e n bytes : Nat} (T : AppT P ts e n bytes) {h : AH} {a : Option Addr} {cap : Nat} {x : Value} {rows rows' : List (List Value)} (A : SlV P h (.slice a rows.length cap) n rows) (B : SlV P h x n rows')
  (hszok : szOk P a n h = true) (hoff : offOk a = true) (hfull : cap < rows.length + rows'.length) (hbig : (rows.length + rows'.length + 1024) * (bytes + 1) ≤ 2 ^ 46) (hone : rows'.flatten.all oneCell = true) :
  ∃ h',pAppend P ts (.slice a rows.length cap) x h = some (.slice (some ⟨h.n,0,none⟩) (rows.length + rows'.length) (rows.length + rows'.length),h') ∧ Lie P h' h.n 0 n true (rows ++ rows') ∧ szOk P (some ⟨h.n,0,none⟩) n h' = true ∧ h'.n = h.n + 1 ∧
   ∀ i,i < h.n→(∀ a',a = some a'→i ≠ a'.block)→h'.get i = h.get i:=by
 obtain ⟨e',he'⟩:=T.other
 obtain ⟨z,hz,hzp,hzs⟩:=T.zero
 obtain ⟨m,rfl⟩ : ∃ m,n = m + 1:=⟨n - 1,by have:=T.pos; omega⟩
 have hA:=A.cellsOf (by omega)
 have hB:=B.cellsOf (by omega)
 have hwA : ∀ r ∈ rows,r.length = m + 1:=by
  rcases A with ⟨_,rfl⟩ | ⟨_,_,_,_,_,_,L⟩
  ·intro r hr; cases hr
  ·exact L.wide
 have hwB : ∀ r ∈ rows',r.length = m + 1:=by
  rcases B with ⟨_,rfl⟩ | ⟨_,_,_,_,_,_,L⟩
  ·intro r hr; cases hr
  ·exact L.wide
 unfold pAppend
 rw [T.elem,he']
 simp only [isIntT_slice,Bool.false_eq_true,if_false,T.size,T.byt,lenE_of B,hz,hA,hB]
 rw [if_neg (by omega),if_pos (by
  simp only [Bool.and_eq_true,decide_eq_true_eq,beq_iff_eq]
  exact ⟨⟨⟨⟨⟨hbig,hzp⟩,hzs⟩,hszok,hoff⟩,hone⟩,by rw [length_flat hwB]⟩)]
 have hnew : AH.get ((match a with
   | none=>h
   | some a=>kill h a.block (a.off + cap * (m + 1))).alloc (.cells (rows.flatten ++ rows'.flatten) e true)) h.n = some (.cells (rows.flatten ++ rows'.flatten) e true):=by
  cases a with
  | none=>exact AH.get_alloc_new _ _
  | some a=>have:=AH.get_alloc_new (kill h a.block (a.off + cap * (m + 1))) (.cells (rows.flatten ++ rows'.flatten) e true); rw [kill_n] at this; exact this
 refine ⟨_,rfl,⟨⟨rows.flatten ++ rows'.flatten,e,hnew,fun _=>⟨?_,?_⟩⟩,?_⟩,?_,?_,?_⟩
 ·simp [length_flat hwA,length_flat hwB,Nat.add_mul]
 ·have : (rows ++ rows').length * (m + 1) = (rows.flatten ++ rows'.flatten).length:=by simp [length_flat hwA,length_flat hwB,Nat.add_mul]
  rw [this,List.drop_zero,List.take_length,List.flatten_append]
 ·intro r hr
  rcases List.mem_append.1 hr with hr | hr
  ·exact hwA r hr
  ·exact hwB r hr
 ·exact szOk_of hnew T.size
 ·cases a with
  | none=>simp
  | some a=>simp [kill_n]
 ·intro i hi ha
  cases a with
  | none=>exact AH.get_alloc_old _ _ hi
  | some a=>exact (AH.get_alloc_old _ _ (by rw [kill_n]; exact hi)).trans (kill_get (ha a rfl))
end Go.Proofs.Ev
set_option linter.unusedVariables false
set_option linter.unusedSimpArgs false
namespace Go.Proofs.Ev
open Go Go.RowKit Go.ChangeShapes Go.WideShapes
variable {P : Program}
theorem flat_range {L : List Value} {o n : Nat} : ∀ len : Nat,((List.range len).map fun i=>(L.drop (o + i * n)).take n).flatten = (L.drop o).take (len * n):=by
 intro len
 induction len with
 | zero=>simp
 | succ len ih =>
  rw [List.range_succ,List.map_append,List.flatten_append,ih,Nat.succ_mul,List.take_add,List.drop_drop]
  simp
theorem mapM_at {α β : Type} {f : α→Option β} : ∀ {xs : List α} {ys : List β},xs.mapM f = some ys→ys.length = xs.length ∧ ∀ (j : Nat) (x : α),xs[j]? = some x→f x = ys[j]?:=by
 intro xs
 induction xs with
 | nil=>intro ys h; simp at h; subst h; exact ⟨rfl,fun j i h=>by simp at h⟩
 | cons x xs ih =>
  intro ys h
  simp only [List.mapM_cons,Option.bind_eq_bind,Option.bind_eq_some_iff,Option.pure_def,Option.some.injEq] at h
  obtain ⟨v,hv,vs,hvs,rfl⟩:=h
  obtain ⟨h1,h2⟩:=ih hvs
  refine ⟨by simp [h1],fun j i hj=>?_⟩
  cases j with
  | zero=>simp at hj; subst hj; exact hv
  | succ j=>exact h2 j i (by simpa using hj)
theorem okSlice {W : World} {r : Reach} {b0 : Nat} {t e : TypeId} {v : Value} (ht : P.underlying t = some (.slice e)) (hv : Value.okWide P W r b0 t v) :
  v = .slice none 0 0 ∨ ∃ a len cap,v = .slice (some a) len cap ∧ World.has P W r b0 a e cap:=by
 unfold Value.okWide at hv
 rw [ht] at hv
 simp only at hv
 unfold Cell.okWide at hv
 rw [ht] at hv
 have hv : Cell.ok P W r b0 t v:=by
  split at hv <;> first | exact hv | (rename_i h; cases h)
 unfold Cell.ok at hv
 rw [ht] at hv
 cases v with
 | slice o len cap =>
  cases o with
  | none =>
   simp only at hv
   split at hv
   all_goals first
    | exact .inl rfl
    | exact absurd hv id
    | (simp_all; done)
  | some a=>exact .inr ⟨_,_,_,rfl,hv.2.2⟩
 | _=>exact absurd hv id
theorem addr_add (b o n : Nat) : (⟨b,o,none⟩ : Addr).add n = ⟨b,o + n,none⟩:=by
 unfold Addr.add
 split
 ·rename_i h; subst h; rfl
 ·rfl
/-- A slice of rows that are handed in. -/
def SlE (P : Program) (h : AH) (v : Value) (n : Nat) (rows : List (List Value)) : Prop :=
 v = .slice none 0 0 ∧ rows = [] ∨ ∃ b off cap,v = .slice (some ⟨b,off,none⟩) rows.length cap ∧ rows.length ≤ cap ∧ Lie P h b off n false rows
theorem SlE.slV {h : AH} {v : Value} {n : Nat} {rows : List (List Value)} (S : SlE P h v n rows) : SlV P h v n rows:=by
 rcases S with S | ⟨b,off,cap,h1,h2,L⟩
 ·exact .inl S
 ·exact .inr ⟨b,off,cap,false,h1,h2,L⟩
theorem SlE.grow {h h' : AH} {v : Value} {n : Nat} {rows : List (List Value)} (S : SlE P h v n rows) (g : Grow h h') : SlE P h' v n rows:=by
 rcases S with S | ⟨b,off,cap,h1,h2,L⟩
 ·exact .inl S
 ·exact .inr ⟨b,off,cap,h1,h2,L.grow (g.2 b L.lt)⟩
/-- A part of it. -/
theorem SlE.slice {h : AH} {v : Value} {n : Nat} {rows : List (List Value)} (S : SlE P h v n rows) {t e : TypeId} (ht : P.underlying t = some (.slice e)) (hs : szT P e = some n) {lo hi : Option Value} {i j : Nat}
  (hlo : intOr 0 lo = some (i : Int)) (hhi : intOr (rows.length : Int) hi = some (j : Int)) (hij : i ≤ j) (hj : j ≤ rows.length) :
  ∃ v',(∀ h',Grow h h'→pSlice P t v lo hi none h' = some v') ∧ SlE P h v' n ((rows.drop i).take (j - i)) ∧ sameV v' v' = true:=by
 have hel : elemT P t = some e:=by unfold elemT; rw [ht]
 rcases S with ⟨rfl,rfl⟩ | ⟨b,off,cap,rfl,h2,L⟩
 ·have : j = 0:=by simpa using hj
  subst this
  have : i = 0:=by omega
  subst this
  refine ⟨.slice none 0 0,fun h' _=>?_,.inl ⟨rfl,rfl⟩,by simp [sameV,same0]⟩
  have hhi' : intOr ((0 : Nat) : Int) hi = some 0:=by simpa using hhi
  have hm : intOr ((0 : Nat) : Int) none = some 0:=rfl
  have hlo' : intOr 0 lo = some 0:=hlo
  unfold pSlice
  simp only [hel,Option.bind_some,hs,hlo',hhi',hm]
  simp
 ·refine ⟨.slice (some ⟨b,off + i * n,none⟩) (j - i) (cap - i),fun h' g=>?_,.inr ⟨b,off + i * n,cap - i,?_,?_,L.part i (j - i) (by omega)⟩,by simp [sameV,same0]⟩
  ·obtain ⟨⟨cs,e',hg,_⟩,_⟩:=L
   have hz : szOk P (some ⟨b,off,none⟩) n h' = true:=by
    unfold szOk
    simp only [g.get hg]
    rfl
   have hm : intOr (cap : Int) none = some (cap : Int):=rfl
   unfold pSlice
   simp only [hel,Option.bind_some,hs,hlo,hhi,hm]
   rw [if_pos ⟨by omega,by omega,by omega,by omega,.inl rfl,.inr (.inr hz)⟩]
   simp only [Option.map_some,Int.toNat_natCast,Option.some.injEq,Value.slice.injEq,true_and]
   omega
  ·congr 1
   simp
   omega
  ·simp
   omega
theorem open_rowsE {H : Type} {enc : TypeId × Value→H} {W : World} {base b0 : Nat} {sp : Nat→Bool} {held : Bool} {r : Reach} {t e : TypeId} {n : Nat} {v : Value} {d : DataW H} {ps : List MemPlace}
  (ht : P.underlying t = some (.slice e)) (hc : P.cellsOf e = n) (hpos : 0 < n) (hv : Value.okWide P W r b0 t v) (hd : DataW.Trod enc P W base sp held t v d ps) :
  ∃ rows : List (List Value),SlE P (extHeap W) (tame W.heap.size 8 v) n (rows.map fun q=>q.map (tame W.heap.size 8)) ∧ rows.length ≤ maxLen ∧ ∀ (i : Nat) (q : List Value),rows[i]? = some q→∃ fuel y,DataW.trod enc P W base sp held fuel e q = some y:=by
 obtain ⟨fuel,hf⟩:=hd
 rcases okSlice ht hv with rfl | ⟨a,len,cap,rfl,hhas⟩
 ·exact ⟨[],.inl ⟨rfl,rfl⟩,Nat.zero_le _,fun i q h=>by simp at h⟩
 ·rcases DataW.trod_slice ht hf with ⟨hcs,_⟩ | ⟨a',len',cap',elems,rest,m,rfl,hcs,_,hb,hl,hcap,hel,hget,_,_⟩
  ·simp [Value.cells] at hcs
  ·simp only [Value.cells,List.cons.injEq,Value.slice.injEq,Option.some.injEq,and_true] at hcs
   obtain ⟨rfl,rfl,rfl⟩:=hcs
   obtain ⟨_,hspot,row,cells,hshape,_⟩:=hhas
   obtain ⟨blk,off,spot⟩:=a
   simp only at hspot
   subst hspot
   unfold World.shape? at hshape
   split at hshape
   case h_2=>cases hshape
   rename_i c e' fz hheap
   have hcell : ∀ o,W.cell? ⟨blk,o,none⟩ = c[o]?:=fun o=>by unfold World.cell?; simp only [hheap]; simp
   have hlt : blk < W.heap.size:=(Array.getElem?_eq_some_iff.1 hheap).1
   rw [hc] at hget
   have each : ∀ i,i < len→off + i * n + n ≤ c.size ∧ ∃ fuel y,DataW.trod enc P W base sp held fuel e ((c.toList.drop (off + i * n)).take n) = some y:=by
    intro i hi
    have h1:=hget i hi
    obtain ⟨y,hy⟩ : ∃ y,elems[i]? = some y:=⟨_,List.getElem?_eq_getElem (by rw [hel]; exact hi)⟩
    rw [hy,Option.bind_eq_some_iff] at h1
    obtain ⟨cs,h2,h3⟩:=h1
    unfold World.cells? at h2
    split at h2
    case isFalse=>cases h2
    obtain ⟨h4,h5⟩:=mapM_at h2
    have h6 : ∀ j,j < n→cs[j]? = c[off + i * n + j]?:=by
     intro j hj
     have:=h5 j j (by simp [hj])
     refine Eq.trans this.symm ?_
     have q:=hcell (off + i * n + j)
     rw [addr_add,addr_add]
     exact q
    have h7 : off + i * n + n ≤ c.size:=by
     have h8:=h6 (n - 1) (by omega)
     have h9 : n - 1 < cs.length:=by rw [h4]; simp; omega
     rw [List.getElem?_eq_getElem h9] at h8
     have:=(Array.getElem?_eq_some_iff.1 h8.symm).1
     omega
    refine ⟨h7,m,y,?_⟩
    have : (c.toList.drop (off + i * n)).take n = cs:=by
     refine List.ext_getElem? fun j=>?_
     by_cases hj : j < n
     ·rw [List.getElem?_take_of_lt hj,List.getElem?_drop,h6 j hj]
      simp
     ·rw [List.getElem?_eq_none (by simp; omega),List.getElem?_eq_none (by rw [h4]; simp; omega)]
    rw [this]
    exact h3
   refine ⟨(List.range len).map fun i=>(c.toList.drop (off + i * n)).take n,.inr ⟨blk,off,cap,?_,by simpa using hl,⟨⟨c.toList.map (tame W.heap.size 8),e',?_,?_⟩,?_⟩⟩,by simp; omega,?_⟩
   ·have : tameAddr W.heap.size ⟨blk,off,none⟩ = true:=by simp [tameAddr,hlt]
    simp [tame,this]
   ·rw [extHeap_get,hheap]
    rfl
   ·intro hne
    have hlen : 0 < len:=by
     rcases Nat.eq_zero_or_pos len with h | h
     ·subst h; simp at hne
     ·exact h
    have hb1:=(each (len - 1) (by omega)).1
    have hmul : (len - 1) * n + n = len * n:=by
     rw [← Nat.succ_mul]; congr 1; omega
    simp only [List.length_map,List.length_range]
    refine ⟨by rw [Array.length_toList]; omega,?_⟩
    rw [← flat_range (L:=c.toList.map (tame W.heap.size 8)) len]
    simp [List.map_take,List.map_drop,Function.comp_def]
   ·intro q hq
    simp only [List.map_map,List.mem_map,List.mem_range,Function.comp_apply] at hq
    obtain ⟨i,hi,rfl⟩:=hq
    have:=(each i hi).1
    simp
    omega
   ·intro i q hq
    simp only [List.getElem?_map,Option.map_eq_some_iff] at hq
    obtain ⟨j,hj,rfl⟩:=hq
    have : j = i ∧ i < len:=by
     have:=List.getElem?_eq_some_iff.1 hj
     obtain ⟨h1,h2⟩:=this
     simp at h1 h2
     omega
    obtain ⟨rfl,hi⟩:=this
    exact (each j hi).2
end Go.Proofs.Ev
set_option linter.unusedVariables false
set_option linter.unusedSimpArgs false
namespace Go.Proofs.Ev
open Go Go.RowKit
variable {P : Program}
/-- A slice that is nil, or one's own from 'n0' on and full. -/
def OwnB (P : Program) (n0 : Nat) (h : AH) (v : Value) (n : Nat) (rows : List (List Value)) : Prop :=
 v = .slice none 0 0 ∧ rows = [] ∨ ∃ b,n0 ≤ b ∧ SlX P h v n b rows
theorem OwnB.slV {n0 : Nat} {h : AH} {v : Value} {n : Nat} {rows : List (List Value)} (S : OwnB P n0 h v n rows) : SlV P h v n rows:=by
 rcases S with S | ⟨b,_,S⟩
 ·exact .inl S
 ·exact S.slV
theorem OwnB.nil (n0 : Nat) (h : AH) (n : Nat) : OwnB P n0 h (.slice none 0 0) n []:=.inl ⟨rfl,rfl⟩
theorem OwnB.grow {n0 : Nat} {h h' : AH} {v : Value} {n : Nat} {rows : List (List Value)} (S : OwnB P n0 h v n rows) (g : Grow h h') : OwnB P n0 h' v n rows:=by
 rcases S with S | ⟨b,hb,S⟩
 ·exact .inl S
 ·exact .inr ⟨b,hb,S.keep (g.2 b S.lie.lt)⟩
theorem GrowFrom.size {n : Nat} {h h' : AH} (g : GrowFrom n h h') : h.n ≤ h'.n:=g.1
/-- One value more. -/
theorem slV_one {h : AH} {e n : Nat} {r : List Value} (hr : r.length = n) : SlV P (h.alloc (.cells r e true)) (.slice (some ⟨h.n,0,none⟩) 1 1) n [r] :=
 .inr ⟨h.n,0,1,true,rfl,Nat.le_refl _,⟨⟨r,e,AH.get_alloc_new _ _,fun _=>⟨by simp [hr],by simp [← hr]⟩⟩,fun q hq=>by simp at hq; rw [hq]; exact hr⟩⟩
end Go.Proofs.Ev
set_option linter.unusedVariables false
set_option linter.unusedSimpArgs false
namespace Go.Proofs.Ev
open Go Go.RowKit
variable {β : Type} {E : Env} {f : FuncId} {inv : Inv} {k : Nat} {a : Act} {h : AH} {Q : β→Prop}
theorem Tl.range {fn : FuncId} {first captured : Array Value} {ps : Array Tmp} {as bd : Code} {K : XE→AH→Option β} {R : AH→Prop} (hent : E.enters (.func (.func fn) first captured) = true)
  (hcall : Tl (inv (.func fn) captured (first ++ #[.func (.yield h.n) #[] #[]]) (h.alloc (.loop .ready none f a.tmps ps as bd))) fun r=>∃ st f' ts ps' as' bd',r.2.get h.n = some (.loop st none f' ts ps' as' bd') ∧ st ≠ .busy ∧ R (r.2.set h.n (.loop .exhausted none f' ts ps' as' bd')))
  (hk : ∀ h2,R h2→Tl (K .normal h2) Q) : Tl (kRange E f inv (.func (.func fn) first captured) ps as bd a h K) Q:=by
 obtain ⟨⟨v,h'⟩,hc,st,f',ts,ps',as',bd',hg,hst,hR⟩:=hcall
 simp only at hg hR
 have : eRange f inv (.func (.func fn) first captured) ps as bd a h = some (.normal,a,h'.set h.n (.loop .exhausted none f' ts ps' as' bd')):=by
  unfold eRange
  simp only [hc,hg]
  rw [if_neg hst]
 unfold kRange
 rw [hent,this]
 exact hk _ hR
theorem Tl.rdBegin {n0 : Nat} {h0 : AH} {L : List (Nat × AO)} {l : Nat} {pend : Option Code} {f1 : FuncId} {ts1 : Array Value} {ps1 : Array Tmp} {as1 bd1 : Code} {K : AH→Option β} (S : Sta n0 h0 h L) (i : Nat)
  (hi : L[i]? = some (l,.loop .ready pend f1 ts1 ps1 as1 bd1)) (hk : ∀ h',Sta n0 h0 h' (L.set i (l,.loop .busy pend f1 ts1 ps1 as1 bd1))→Tl (K h') Q) : Tl (Ev.rdBegin l h K) Q:=by
 unfold Ev.rdBegin
 rw [S.mem.at_ hi]
 exact hk _ (S.set i hi _)
theorem or_disj (acc g i : Nat) (h : acc < 2 ^ i) : acc ||| g * 2 ^ i = acc + g * 2 ^ i:=by
 have:=Nat.two_pow_add_eq_or_of_lt h g
 rw [Nat.or_comm,Nat.mul_comm g,← this,Nat.add_comm]
end Go.Proofs.Ev
set_option linter.unusedVariables false
set_option linter.unusedSimpArgs false
namespace Go.Proofs.Ev
section
open Go Go.RowKit
variable {β : Type} {P : Program} {n0 : Nat} {h0 h : AH} {L : List (Nat × AO)} {Q : β→Prop} {t : TypeId}
theorem Tl.storeX {x : Value} {K : Value × AH→Option β} {o b n : Nat} {vs : List Value} {e : TypeId} (S : Sta n0 h0 h L) (i : Nat) (hi : L[i]? = some (b,.cells vs e true)) (hs : szT P t = some n) (hn : x.cells.size = n) (hx : x.cells.toList.all oneCell = true)
  (hl : o + n ≤ vs.length) (hk : ∀ h',Sta n0 h0 h' (L.set i (b,.cells (splice vs o x.cells.toList) e true))→(∀ j,j ≠ b→h'.get j = h.get j)→Tl (K (unk,h')) Q) :
  Tl (Ev.bnd (kSt (pStore P t (.pointer (some ⟨b,o,none⟩)) x h)) K) Q:=by
 unfold pStore
 simp only
 rw [hs,hx,← hn]
 simp only [Bool.true_and,beq_self_eq_true,if_true]
 have hg : h.get b = some (.cells vs e true):=S.mem.at_ hi
 unfold AH.put
 rw [hg]
 simp only
 rw [if_pos (by rw [Array.length_toList,hn]; exact hl)]
 exact hk _ (S.set i hi _) fun j hj=>AH.get_set_other h _ (Ne.symm hj)
theorem Tl.bind {α : Type} {o : Option α} {K : α→Option β} {R : α→Prop} (C : Tl o R) (hk : ∀ r,R r→Tl (K r) Q) : Tl (Ev.bnd o K) Q:=by
 obtain ⟨r,h1,h2⟩:=C
 subst h1
 exact hk r h2
theorem Sta.keep {h' : AH} (S : Sta n0 h0 h L) (hn : h.n ≤ h'.n) (hs : ∀ i,i < n0→h'.get i = h.get i) (hL : ∀ p ∈ L,h'.get p.1 = h.get p.1) : Sta n0 h0 h' L :=
 ⟨S.grow.trans ⟨hn,hs⟩,S.base,S.mem.keep hL,S.new,S.nodup⟩
/-- A slice of one's own, apart from the blocks of 'L'. -/
def OwnL (P : Program) (n0 : Nat) (h : AH) (v : Value) (n : Nat) (rows : List (List Value)) (L : List (Nat × AO)) : Prop:=v = .slice none 0 0 ∧ rows = [] ∨ ∃ b,n0 ≤ b ∧ b ∉ L.map (·.1) ∧ SlX P h v n b rows
theorem OwnL.list {v : Value} {n : Nat} {rows : List (List Value)} {L L' : List (Nat × AO)} (O : OwnL P n0 h v n rows L) (e : L'.map (·.1) = L.map (·.1)) : OwnL P n0 h v n rows L':=by
 unfold OwnL at O ⊢
 rw [e]; exact O
theorem OwnL.keep {h h' : AH} {v : Value} {n : Nat} {rows : List (List Value)} {L : List (Nat × AO)} (O : OwnL P n0 h v n rows L) (e : ∀ i,i ∉ L.map (·.1)→h'.get i = h.get i) : OwnL P n0 h' v n rows L:=by
 rcases O with O | ⟨b,hb,hbL,X⟩
 ·exact .inl O
 ·exact .inr ⟨b,hb,hbL,X.keep (e b hbL)⟩
end
end Go.Proofs.Ev
namespace Go.Proofs.Ev
section
open Go Go.RowKit
variable {β : Type} {P : Program} {n0 : Nat} {h0 h : AH} {L : List (Nat × AO)} {Q : β→Prop} {t : TypeId} {E : Env} {f : FuncId} {inv : Inv} {a : Act}
theorem Sta.add (S : Sta n0 h0 h L) {b : Nat} {o : AO} (hb : n0 ≤ b) (hnew : b ∉ L.map (·.1)) (hg : h.get b = some o) : Sta n0 h0 h ((b,o) :: L):=by
 refine ⟨S.grow,S.base,⟨hg,S.mem⟩,fun p hp=>?_,?_⟩
 ·rcases List.mem_cons.1 hp with rfl | hp
  ·exact hb
  ·exact S.new p hp
 ·rw [List.map_cons,List.nodup_cons]
  exact ⟨hnew,S.nodup⟩
theorem Sta.fresh (S : Sta n0 h0 h L) {b : Nat} (hb : h.n ≤ b) : b ∉ L.map (·.1):=by
 intro hc
 obtain ⟨p,hp,he⟩:=List.mem_map.1 hc
 have:=S.mem.lt p hp
 omega
theorem splice_flat {n : Nat} {r tl : List Value} (hr : r.length = n) : ∀ {rows : List (List Value)} {i : Nat},(∀ r ∈ rows,r.length = n)→i < rows.length→splice (rows.flatten ++ tl) (i * n) r = (rows.set i r).flatten ++ tl:=by
 intro rows
 induction rows with
 | nil=>intro i _ h; simp at h
 | cons q rows ih =>
  intro i hn hi
  have hq:=hn q (by simp)
  cases i with
  | zero =>
   unfold splice
   simp only [Nat.zero_mul,List.take_zero,List.nil_append,Nat.zero_add,List.flatten_cons,List.set_cons_zero,List.append_assoc]
   congr 1
   rw [hr,← hq,List.drop_left]
  | succ i =>
   have:=ih (i:=i) (fun x hx=>hn x (by simp [hx])) (by simpa using hi)
   unfold splice at this ⊢
   simp only [List.flatten_cons,List.set_cons_succ,List.append_assoc]
   rw [← this,Nat.succ_mul,Nat.add_comm (i * n) n,← hq,Nat.add_assoc]
   simp only [List.take_length_add_append,List.drop_length_add_append,List.append_assoc]
theorem SlX.setRow {v : Value} {n b : Nat} {rows : List (List Value)} (S : SlX P h v n b rows) {i : Nat} {r : List Value} (hi : i < rows.length) (hr : r.length = n) :
  ∃ cs e,h.get b = some (.cells cs e true) ∧ i * n + n ≤ cs.length ∧ ∀ h',h'.get b = some (.cells (splice cs (i * n) r) e true)→SlX P h' v n b (rows.set i r):=by
 obtain ⟨⟨cs,e,h1,h2⟩,h5⟩:=S.lie
 obtain ⟨h3,h4⟩:=h2 (by rintro rfl; simp at hi)
 have hle : (i + 1) * n ≤ rows.length * n:=Nat.mul_le_mul_right n hi
 rw [Nat.succ_mul] at hle
 rw [List.drop_zero] at h4
 have hcs : cs = rows.flatten ++ cs.drop (rows.length * n):=by rw [← h4,List.take_append_drop]
 refine ⟨cs,e,h1,by omega,fun h' hg=>⟨by rw [List.length_set]; exact S.form,⟨⟨_,e,hg,fun _=>?_⟩,fun q hq=>?_⟩,?_⟩⟩
 ·have hw : ∀ q ∈ rows.set i r,q.length = n:=fun q hq=>by
   rcases List.mem_or_eq_of_mem_set hq with hq | rfl
   ·exact h5 q hq
   ·exact hr
  rw [hcs,splice_flat hr h5 hi]
  have hl:=length_flat hw
  rw [List.length_set] at hl
  rw [List.length_set,List.drop_zero]
  refine ⟨by simp only [List.length_append]; omega,?_⟩
  rw [← hl,List.take_left]
 ·rcases List.mem_or_eq_of_mem_set hq with hq | rfl
  ·exact h5 q hq
  ·exact hr
 ·have:=S.sz
  unfold szOk at this ⊢
  simp only at this ⊢
  rw [h1] at this
  rw [hg]
  exact this
end
end Go.Proofs.Ev
namespace Go.Proofs.Ev
section
open Go Go.RowKit
variable {β : Type} {P : Program} {n0 : Nat} {h0 h : AH} {L : List (Nat × AO)} {Q : β→Prop} {t : TypeId}
theorem Tl.setRow {x v : Value} {K : Value × AH→Option β} {n b i : Nat} {rows : List (List Value)} (S : Sta n0 h0 h L) (X : SlX P h v n b rows) (hb : n0 ≤ b) (hnew : b ∉ L.map (·.1)) (hi : i < rows.length) (hr : x.cells.toList.length = n) (hs : szT P t = some n)
  (hone : x.cells.toList.all oneCell = true) (hk : ∀ h',Sta n0 h0 h' L→SlX P h' v n b (rows.set i x.cells.toList)→(∀ j,j ≠ b→h'.get j = h.get j)→Tl (K (unk,h')) Q) :
  Tl (Ev.bnd (kSt (pStore P t (.pointer (some ⟨b,i * n,none⟩)) x h)) K) Q:=by
 obtain ⟨cs,ec,hg,hfit,hset⟩:=X.setRow hi hr
 have S2:=S.add hb hnew hg
 refine Tl.storeX S2 0 rfl hs (by rw [← hr,Array.length_toList]) hone hfit fun h' S3 G=>?_
 exact hk h' S3.drop (hset h' (S3.mem.at_ (i:=0) rfl)) G
theorem SlX.idx {v : Value} {n b i : Nat} {rows : List (List Value)} {t e : TypeId} {k : IntKind} (X : SlX P h v n b rows) (hi : i < rows.length) (hu : P.underlying t = some (.slice e)) (hs : szT P e = some n) :
  pIndexAddr P t v (.int k (i : Int)) = some (.pointer (some ⟨b,i * n,none⟩)):=by
 rw [X.form]
 refine (indexAddr_slice hu hs (by omega) (by omega)).trans ?_
 simp
theorem OwnL.slV {v : Value} {n : Nat} {rows : List (List Value)} (O : OwnL P n0 h v n rows L) : SlV P h v n rows:=by
 rcases O with ⟨rfl,rfl⟩ | ⟨b,_,_,X⟩
 ·exact .inl ⟨rfl,rfl⟩
 ·exact X.slV
theorem slV_cells {v : Value} {n : Nat} {rows : List (List Value)} (S : SlV P h v n rows) : v.cells.toList = [v] ∧ v.cells.size = 1 ∧ oneCell v = true ∧ kn v = true:=by
 rcases S with ⟨rfl,_⟩ | ⟨b,o,c,own,rfl,_⟩ <;> exact ⟨rfl,rfl,rfl,rfl⟩
end
section
open Go.ChangeShapes
variable {H : Type} {enc : TypeId × Value→H} {P : Program} {w : World} {base : Nat} {spare : Nat→Bool} {held : Bool}
theorem trodAll_five {t0 t1 t2 t3 t4 : TypeId} {args : Array Value} {ds : List (DataW H)} {ps : List MemPlace} (h : DataW.TrodAll enc P w base spare held [t0,t1,t2,t3,t4] args.toList ds ps) :
  ∃ v0 v1 v2 v3 v4 d0 d1 d2 d3 d4 p0 p1 p2 p3 p4,args = #[v0,v1,v2,v3,v4] ∧ ds = [d0,d1,d2,d3,d4] ∧ ps = p0 ++ p1 ++ p2 ++ p3 ++ p4 ∧ DataW.Trod enc P w base spare held t0 v0 d0 p0 ∧ DataW.Trod enc P w base spare held t1 v1 d1 p1 ∧ DataW.Trod enc P w base spare held t2 v2 d2 p2 ∧
   DataW.Trod enc P w base spare held t3 v3 d3 p3 ∧ DataW.Trod enc P w base spare held t4 v4 d4 p4:=by
 obtain ⟨v0,w0,d0,e0,p0,q0,hargs,rfl,rfl,h0,r0⟩:=trodAll_cons h
 obtain ⟨v1,w1,d1,e1,p1,q1,rfl,rfl,rfl,h1,r1⟩:=trodAll_cons r0
 obtain ⟨v2,w2,d2,e2,p2,q2,rfl,rfl,rfl,h2,r2⟩:=trodAll_cons r1
 obtain ⟨v3,w3,d3,e3,p3,q3,rfl,rfl,rfl,h3,r3⟩:=trodAll_cons r2
 obtain ⟨v4,w4,d4,e4,p4,q4,rfl,rfl,rfl,h4,r4⟩:=trodAll_cons r3
 obtain ⟨rfl,rfl,rfl⟩:=trodAll_nil r4
 exact ⟨v0,v1,v2,v3,v4,d0,d1,d2,d3,d4,p0,p1,p2,p3,p4,by cases args; simp_all,rfl,by simp,h0,h1,h2,h3,h4⟩
end
end Go.Proofs.Ev
set_option linter.unusedVariables false
set_option linter.unusedSimpArgs false
namespace Go.Proofs.Ev
open Go Go.RowKit Go.ChangeShapes Go.WideShapes
variable {P : Program}
theorem dlt_t {a b : Int} (h : a < b) : decide (a < b) = true:=decide_eq_true h
theorem dlt_f {a b : Int} (h : ¬ a < b) : decide (a < b) = false:=decide_eq_false h
theorem dle_t {a b : Int} (h : a ≤ b) : decide (a ≤ b) = true:=decide_eq_true h
theorem dle_f {a b : Int} (h : ¬ a ≤ b) : decide (a ≤ b) = false:=decide_eq_false h
theorem dgt_t {a b : Int} (h : a > b) : decide (a > b) = true:=decide_eq_true h
theorem dgt_f {a b : Int} (h : ¬ a > b) : decide (a > b) = false:=decide_eq_false h
theorem dge_t {a b : Int} (h : a ≥ b) : decide (a ≥ b) = true:=decide_eq_true h
theorem dge_f {a b : Int} (h : ¬ a ≥ b) : decide (a ≥ b) = false:=decide_eq_false h
theorem beq_t {a b : Int} (h : a = b) : (a == b) = true:=by simpa using h
theorem beq_f {a b : Int} (h : ¬ a = b) : (a == b) = false:=by simpa using h
theorem bne_t {a b : Int} (h : ¬ a = b) : (a != b) = true:=by simpa using h
theorem bne_f {a b : Int} (h : a = b) : (a != b) = false:=by simpa using h
theorem wr_i64 {z : Int} (h0 : -9223372036854775808 ≤ z ∧ z ≤ 9223372036854775807) : IntKind.i64.wrap z = z:=by
 unfold IntKind.wrap
 simp [IntKind.signed,IntKind.bits]
 omega
theorem wr_u64 {z : Int} (h0 : 0 ≤ z ∧ z ≤ 18446744073709551615) : IntKind.u64.wrap z = z:=by
 unfold IntKind.wrap
 simp [IntKind.signed,IntKind.bits]
 omega
theorem wr_u8 {z : Int} (h0 : 0 ≤ z ∧ z ≤ 255) : IntKind.u8.wrap z = z:=by
 unfold IntKind.wrap
 simp [IntKind.signed,IntKind.bits]
 omega
/-- A slice of single values. -/
def Sl1 {α : Type} (P : Program) (h : AH) (v : Value) (f : α→Value) (l : List α) : Prop:=SlV P h v 1 (l.map fun x=>[f x])
theorem Sl1.grow {α : Type} {h h' : AH} {v : Value} {f : α→Value} {l : List α} (S : Sl1 P h v f l) (g : Grow h h') : Sl1 P h' v f l:=SlV.grow S g
theorem Sl1.len {α : Type} {h h' : AH} {v : Value} {f : α→Value} {l : List α} (S : Sl1 P h v f l) {t e : TypeId} (ht : P.underlying t = some (.slice e)) : pLen P #[t] v h' = some (.int .i64 l.length):=by
 have:=SlV.len S ht (h':=h')
 simpa using this
theorem Sl1.at_ {α : Type} {h : AH} {v : Value} {f : α→Value} {l : List α} (S : Sl1 P h v f l) {t e : TypeId} {k : IntKind} {i : Nat} {x : α} (hi : l[i]? = some x) (ht : P.underlying t = some (.slice e)) (hs : szT P e = some 1) :
  ∃ b o,pIndexAddr P t v (.int k i) = some (.pointer (some ⟨b,o,none⟩)) ∧ ∀ h',Grow h h'→h'.cell b o = some (f x):=by
 obtain ⟨b,o,h1,h2⟩:=SlV.at_ S (t:=t) (k:=k) (i:=i) (r:=[f x]) (by simp [hi]) ht hs
 refine ⟨b,o,h1,fun h' g=>?_⟩
 have : h'.row b o 1 = h.row b o 1:=by
  have hb : b < h.n:=by
   unfold AH.row at h2
   split at h2
   ·rename_i hg; exact AH.get_lt hg
   ·cases h2
  unfold AH.row
  rw [g.2 b hb]
 have:=cell_of_row (j:=0) (this.trans h2) (by omega)
 simpa using this
/-! ### The state in a function, its own slices listed, too -/
abbrev OS:=Value × Nat × List (List Value)
def blkOf : Value→Option Nat
 | .slice (some a) _ _=>some a.block
 | _=>none
/-- Below 'n0' nothing has turned; the blocks of L are known; the slices of O are one's own, each apart from all else. -/
structure Stt (P : Program) (n0 : Nat) (h0 h : AH) (L : List (Nat × AO)) (O : List OS) : Prop where
 sta : Sta n0 h0 h L
 own : ∀ o ∈ O,OwnL P n0 h o.1 o.2.1 o.2.2 L
 apart : ∀ (i j : Nat) (x y : OS) (b : Nat),O[i]? = some x→O[j]? = some y→blkOf x.1 = some b→blkOf y.1 = some b→i = j
variable {n0 : Nat} {h0 h : AH} {L : List (Nat × AO)} {O : List OS} {β : Type} {Q : β→Prop} {t : TypeId}
theorem OwnL.grow {v : Value} {n : Nat} {rows : List (List Value)} (X : OwnL P n0 h v n rows L) {h' : AH} (g : Grow h h') : OwnL P n0 h' v n rows L:=by
 rcases X with X | ⟨b,hb,hn,X⟩
 ·exact .inl X
 ·exact .inr ⟨b,hb,hn,X.keep (g.2 b X.lie.lt)⟩
theorem OwnL.blk {v : Value} {n : Nat} {rows : List (List Value)} (X : OwnL P n0 h v n rows L) {b : Nat} (hb : blkOf v = some b) : n0 ≤ b ∧ b < h.n ∧ b ∉ L.map (·.1) ∧ SlX P h v n b rows:=by
 rcases X with ⟨rfl,_⟩ | ⟨c,h1,h2,X⟩
 ·cases hb
 ·have:=X.form
  subst this
  simp only [blkOf,Option.some.injEq] at hb
  subst hb
  exact ⟨h1,X.lie.lt,h2,X⟩
theorem Stt.init (h : AH) : Stt P h.n h h [] []:=⟨Sta.init h,fun o ho=>(by cases ho),fun i j x y b hi=>(by simp at hi)⟩
theorem Stt.grow (S : Stt P h0.n h0 h L O) : Grow h0 h:=S.sta.done
theorem Stt.call (S : Stt P n0 h0 h L O) {h' : AH} (g : Grow h h') : Stt P n0 h0 h' L O:=⟨S.sta.call g,fun o ho=>(S.own o ho).grow g,S.apart⟩
theorem OwnL.sub {v : Value} {n : Nat} {rows : List (List Value)} (X : OwnL P n0 h v n rows L) {L' : List (Nat × AO)} (hs : ∀ b,blkOf v = some b→b ∉ L'.map (·.1)) : OwnL P n0 h v n rows L':=by
 rcases X with X | ⟨b,hb,hn,X⟩
 ·exact .inl X
 ·exact .inr ⟨b,hb,hs b (by rw [X.form]; rfl),X⟩
theorem Stt.alloc (S : Stt P n0 h0 h L O) (o : AO) : Stt P n0 h0 (h.alloc o) ((h.n,o) :: L) O:=by
 refine ⟨S.sta.alloc o,fun x hx=>((S.own x hx).grow (Grow.alloc h o)).sub fun b hb=>?_,S.apart⟩
 obtain ⟨_,h1,h2,_⟩:=(S.own x hx).blk hb
 rw [List.map_cons,List.mem_cons]
 rintro (q | q)
 ·simp only at q; omega
 ·exact h2 q
theorem Stt.set (S : Stt P n0 h0 h L O) (i : Nat) {b : Nat} {o : AO} (hi : L[i]? = some (b,o)) (o' : AO) : Stt P n0 h0 (h.set b o') (L.set i (b,o')) O:=by
 have hmap : (L.set i (b,o')).map (·.1) = L.map (·.1):=by
  rw [List.map_set]
  refine List.ext_getElem? fun k=>?_
  rw [List.getElem?_set]
  split
  ·rename_i hk
   subst hk
   have hlt : i < L.length:=(List.getElem?_eq_some_iff.1 hi).1
   simp [hlt,List.getElem?_map,hi]
   rw [(List.getElem?_eq_some_iff.1 hi).2]
  ·rfl
 refine ⟨S.sta.set i hi o',fun x hx=>?_,S.apart⟩
 refine ((S.own x hx).keep fun j hj=>AH.get_set_other h o' ?_).list hmap
 rintro rfl
 exact hj (List.mem_map.2 ⟨_,List.mem_of_getElem? hi,rfl⟩)
/-- What is not known any more. -/
theorem Stt.drop {p : Nat × AO} (S : Stt P n0 h0 h (p :: L) O) : Stt P n0 h0 h L O :=
 ⟨S.sta.drop,fun x hx=>(S.own x hx).sub fun b hb q=>((S.own x hx).blk hb).2.2.1 (by rw [List.map_cons]; exact List.mem_cons_of_mem _ q),S.apart⟩
theorem Stt.dropO {o : OS} (S : Stt P n0 h0 h L (o :: O)) : Stt P n0 h0 h L O :=
 ⟨S.sta,fun x hx=>S.own x (by simp [hx]),fun i j x y b hi hj=>fun q1 q2=>by
  have:=S.apart (i + 1) (j + 1) x y b (by simpa using hi) (by simpa using hj) q1 q2
  omega⟩
theorem Stt.nil (S : Stt P n0 h0 h L O) (n : Nat) : Stt P n0 h0 h L ((.slice none 0 0,n,[]) :: O):=by
 refine ⟨S.sta,fun x hx=>?_,fun i j x y b hi hj q1 q2=>?_⟩
 ·rcases List.mem_cons.1 hx with rfl | hx
  ·exact .inl ⟨rfl,rfl⟩
  ·exact S.own x hx
 ·cases i with
  | zero=>simp at hi; subst hi; cases q1
  | succ i =>
   cases j with
   | zero=>simp at hj; subst hj; cases q2
   | succ j =>
    have:=S.apart i j x y b (by simpa using hi) (by simpa using hj) q1 q2
    omega
theorem Stt.slV (S : Stt P n0 h0 h L O) (i : Nat) {v : Value} {n : Nat} {rows : List (List Value)} (hi : O[i]? = some (v,n,rows)) : SlV P h v n rows:=(S.own _ (List.mem_of_getElem? hi)).slV
theorem Stt.sl1 (S : Stt P n0 h0 h L O) (i : Nat) {v : Value} {α : Type} {f : α→Value} {l : List α} (hi : O[i]? = some (v,1,l.map fun x=>[f x])) : Sl1 P h v f l:=S.slV i hi
/-- A slice that a call has made. -/
theorem Stt.gain (S : Stt P n0 h0 h L O) {h' : AH} (g : Grow h h') {v : Value} {n : Nat} {rows : List (List Value)} (X : OwnB P h.n h' v n rows) : Stt P n0 h0 h' L ((v,n,rows) :: O):=by
 have S':=S.call g
 refine ⟨S'.sta,fun x hx=>?_,?_⟩
 ·rcases List.mem_cons.1 hx with rfl | hx
  ·rcases X with X | ⟨b,hb,X⟩
   ·exact .inl X
   ·exact .inr ⟨b,Nat.le_trans S.sta.size hb,S.sta.fresh hb,X⟩
  ·exact S'.own x hx
 ·have key : ∀ (j : Nat) (y : OS) (b : Nat),O[j]? = some y→blkOf v = some b→blkOf y.1 = some b→False:=by
   intro j y b hj q1 q2
   have h1:=((S.own y (List.mem_of_getElem? hj)).blk q2).2.1
   rcases X with ⟨rfl,_⟩ | ⟨c,hc,X⟩
   ·cases q1
   ·rw [X.form] at q1
    simp only [blkOf,Option.some.injEq] at q1
    omega
  intro i j x y b hi hj q1 q2
  cases i with
  | zero =>
   simp at hi; subst hi
   cases j with
   | zero=>rfl
   | succ j=>exact (key j y b (by simpa using hj) q1 q2).elim
  | succ i =>
   cases j with
   | zero=>simp at hj; subst hj; exact (key i x b (by simpa using hi) q2 q1).elim
   | succ j =>
    have:=S.apart i j x y b (by simpa using hi) (by simpa using hj) q1 q2
    omega
theorem mem_set_cases {α : Type} {l : List α} {i : Nat} {a x : α} (h : x ∈ l.set i a) : x = a ∨ ∃ j,j ≠ i ∧ l[j]? = some x:=by
 obtain ⟨j,hj⟩:=List.mem_iff_getElem?.1 h
 rw [List.getElem?_set] at hj
 split at hj
 ·split at hj
  ·exact .inl (by simpa using hj.symm)
  ·cases hj
 ·rename_i hne; exact .inr ⟨j,fun q=>hne q.symm,hj⟩
/-- A slice of the list takes another form: all others stay. -/
theorem Stt.put (S : Stt P n0 h0 h L O) (i : Nat) {v v' : Value} {n n' : Nat} {rows rows' : List (List Value)} (hi : O[i]? = some (v,n,rows)) {h' : AH} (hn : h.n ≤ h'.n)
  (hkeep : ∀ j,j < h.n→blkOf v ≠ some j→h'.get j = h.get j) (X : OwnL P n0 h' v' n' rows' L) (hb : ∀ b,blkOf v' = some b→b < h.n→blkOf v = some b) : Stt P n0 h0 h' L (O.set i (v',n',rows')):=by
 have hv : ∀ b,blkOf v = some b→n0 ≤ b ∧ b ∉ L.map (·.1):=fun b q=>by
  obtain ⟨q1,_,q2,_⟩:=(S.own _ (List.mem_of_getElem? hi)).blk q
  exact ⟨q1,q2⟩
 refine ⟨S.sta.keep hn (fun j hj=>hkeep j (Nat.lt_of_lt_of_le hj S.sta.size) fun q=>by have:=(hv j q).1; omega) (fun p hp=>hkeep _ (S.sta.mem.lt p hp) fun q=>(hv _ q).2 (List.mem_map.2 ⟨p,hp,rfl⟩)),fun x hx=>?_,?_⟩
 ·rcases mem_set_cases hx with rfl | ⟨j,hj,hx⟩
  ·exact X
  ·have Y:=S.own x (List.mem_of_getElem? hx)
   rcases Y with Y | ⟨c,h1,h2,Y⟩
   ·exact .inl Y
   ·refine .inr ⟨c,h1,h2,Y.keep (hkeep c Y.lie.lt fun q=>?_)⟩
    exact hj (S.apart j i x _ c hx hi (by rw [Y.form]; rfl) q)
 ·intro j k x y b hj hk q1 q2
  have hil : i < O.length:=(List.getElem?_eq_some_iff.1 hi).1
  have old : ∀ (j : Nat) (x : OS) (b : Nat),j ≠ i→(O.set i (v',n',rows'))[j]? = some x→blkOf x.1 = some b→blkOf v' = some b→False:=by
   intro j x b hji hj q1 q2
   rw [List.getElem?_set_ne (Ne.symm hji)] at hj
   have h1:=((S.own x (List.mem_of_getElem? hj)).blk q1).2.1
   exact hji (S.apart j i x _ b hj hi q1 (hb b q2 h1))
  by_cases e1 : j = i
  ·subst e1
   rw [List.getElem?_set_self hil] at hj
   cases hj
   by_cases e2 : k = j
   ·exact e2.symm
   ·exact (old k y b e2 hk q2 q1).elim
  ·by_cases e2 : k = i
   ·subst e2
    rw [List.getElem?_set_self hil] at hk
    cases hk
    exact (old j x b e1 hj q1 q2).elim
   ·rw [List.getElem?_set_ne (Ne.symm e1)] at hj
    rw [List.getElem?_set_ne (Ne.symm e2)] at hk
    exact S.apart j k x y b hj hk q1 q2
/-- Appended to a slice of one's own. -/
theorem Stt.append (S : Stt P n0 h0 h L O) (i : Nat) {v x : Value} {n e bytes : Nat} {ts : Array TypeId} {rows rows' : List (List Value)} (hi : O[i]? = some (v,n,rows)) (T : AppT P ts e n bytes) (B : SlV P h x n rows')
  (hbig : (rows.length + rows'.length + 1024) * (bytes + 1) ≤ 2 ^ 46) (hone : rows'.flatten.all oneCell = true) :
  ∃ v' h',pAppend P ts v x h = some (v',h') ∧ Stt P n0 h0 h' L (O.set i (v',n,rows ++ rows')) ∧ h.n ≤ h'.n ∧ ∀ j,j < h.n→blkOf v ≠ some j→h'.get j = h.get j:=by
 have X:=S.own _ (List.mem_of_getElem? hi)
 simp only at X
 by_cases hne : rows' = []
 ·subst hne
  refine ⟨v,h,?_,S.put i hi (Nat.le_refl _) (fun _ _ _=>rfl) (by simpa using X) fun b q _=>q,Nat.le_refl _,fun _ _ _=>rfl⟩
  have hX : OwnB P h.n h v n rows ∨ True:=.inr trivial
  obtain ⟨e',he'⟩:=T.other
  obtain ⟨z,hz,hzp,hzs⟩:=T.zero
  obtain ⟨m,rfl⟩ : ∃ m,n = m + 1:=⟨n - 1,by have:=T.pos; omega⟩
  have hA:=X.slV.cellsOf (by omega)
  have hB:=B.cellsOf (by omega)
  rcases X with ⟨rfl,rfl⟩ | ⟨b,hb,hn,X⟩
  ·unfold pAppend
   rw [T.elem,he']
   simp only [isIntT_slice,Bool.false_eq_true,if_false,T.size,T.byt,lenE_of B,hz,hB]
   rfl
  ·have:=X.form
   subst this
   unfold pAppend
   rw [T.elem,he']
   simp only [isIntT_slice,Bool.false_eq_true,if_false,T.size,T.byt,lenE_of B,hz,hA,hB]
   rw [if_pos (by simp)]
   simp
 ·have hpos : 0 < rows'.length:=List.length_pos_iff.2 hne
  rcases X with ⟨rfl,rfl⟩ | ⟨b,hb,hn,X⟩
  ·have A' : SlV P h (.slice none ([] : List (List Value)).length 0) n []:=.inl ⟨rfl,rfl⟩
   obtain ⟨h',h1,h2,hz,h3,h4⟩:=append_new T A' B rfl rfl (by simpa using hpos) hbig hone
   have h2 : Lie P h' h.n 0 n true rows':=h2
   have K : ∀ j,j < h.n→h'.get j = h.get j:=fun j hj=>h4 j hj fun a' ha=>by cases ha
   refine ⟨_,h',h1,S.put i hi (by omega) (fun j hj _=>K j hj) (.inr ⟨h.n,S.sta.size,S.sta.fresh (Nat.le_refl _),⟨by simp,h2,hz⟩⟩) fun c q hc=>?_,by omega,fun j hj _=>K j hj⟩
   simp only [blkOf,Option.some.injEq] at q
   omega
  ·have A':=X.slV
   have hf:=X.form
   subst hf
   obtain ⟨h',h1,h2,hz,h3,h4⟩:=append_new T A' B X.sz rfl (by omega) hbig hone
   have K : ∀ j,j < h.n→blkOf (.slice (some ⟨b,0,none⟩) rows.length rows.length) ≠ some j→h'.get j = h.get j:=fun j hj q=>h4 j hj fun a' ha=>by
    cases ha
    rintro rfl
    exact q rfl
   refine ⟨_,h',h1,S.put i hi (by omega) K (.inr ⟨h.n,S.sta.size,S.sta.fresh (Nat.le_refl _),⟨by simp,h2,hz⟩⟩) fun c q hc=>?_,by omega,K⟩
   simp only [blkOf,Option.some.injEq] at q
   omega
theorem flat_one {α : Type} (f : α→Value) (hf : ∀ x,oneCell (f x) = true) (l : List α) : ((l.map fun x=>[f x]).flatten).all oneCell = true:=by
 induction l with
 | nil=>rfl
 | cons c l ih=>simp [hf]
/-! ### Steps -/
theorem Tl.box' {v : Value} {K : Value × AH→Option β} (S : Stt P n0 h0 h L O) (hk : kn v = true) (hs : (szT P t).isSome = true) (hn : ∀ b h',Stt P n0 h0 h' ((b,.cells v.cells.toList t true) :: L) O→Grow h h'→Tl (K (.pointer (some ⟨b,0,none⟩),h')) Q) :
  Tl (Ev.bnd (pBox P t v h) K) Q:=by
 unfold pBox
 rw [hk,hs]
 exact hn _ _ (S.alloc _) (Grow.alloc _ _)
theorem Tl.alloc' {z : Value} {K : Value × AH→Option β} (S : Stt P n0 h0 h L O) (hz : zeroT P t = some z) (hp : plain z = true) (hn : ∀ b h',Stt P n0 h0 h' ((b,.cells z.cells.toList t true) :: L) O→Grow h h'→Tl (K (.pointer (some ⟨b,0,none⟩),h')) Q) :
  Tl (Ev.bnd (pAlloc P t h) K) Q:=by
 unfold pAlloc
 rw [hz]
 simp only
 rw [if_pos hp]
 exact hn _ _ (S.alloc _) (Grow.alloc _ _)
theorem Tl.store' {x : Value} {K : Value × AH→Option β} {o b n : Nat} {vs : List Value} {e : TypeId} (S : Stt P n0 h0 h L O) (i : Nat) (hi : L[i]? = some (b,.cells vs e true)) (hs : szT P t = some n) (hn : x.cells.size = n) (hx : x.cells.toList.all oneCell = true)
  (hl : o + n ≤ vs.length) (hk : ∀ h',Stt P n0 h0 h' (L.set i (b,.cells (splice vs o x.cells.toList) e true)) O→(∀ j,j ≠ b→h'.get j = h.get j)→Tl (K (unk,h')) Q) :
  Tl (Ev.bnd (kSt (pStore P t (.pointer (some ⟨b,o,none⟩)) x h)) K) Q:=by
 unfold pStore
 simp only
 rw [hs,hx,← hn]
 simp only [Bool.true_and,beq_self_eq_true,if_true]
 have hg : h.get b = some (.cells vs e true):=S.sta.mem.at_ hi
 unfold AH.put
 rw [hg]
 simp only
 rw [if_pos (by rw [Array.length_toList,hn]; exact hl)]
 exact hk _ (S.set i hi _) fun j hj=>AH.get_set_other h _ (Ne.symm hj)
theorem Tl.call' {v : Value} {o : Option (Value × AH)} {K : Value × AH→Option β} (S : Stt P n0 h0 h L O) (C : Tl o fun r=>r.1 = v ∧ Grow h r.2) (hk : ∀ h',Stt P n0 h0 h' L O→Grow h h'→Tl (K (v,h')) Q) : Tl (Ev.bnd o K) Q:=by
 obtain ⟨⟨v',h'⟩,rfl,rfl,g⟩:=C
 exact hk h' (S.call g) g
/-- A call that makes a slice of one's own. -/
theorem Tl.callO {n : Nat} {rows : List (List Value)} {o : Option (Value × AH)} {K : Value × AH→Option β} (S : Stt P n0 h0 h L O) (C : Tl o fun r=>OwnB P h.n r.2 r.1 n rows ∧ Grow h r.2) (hk : ∀ v h',Stt P n0 h0 h' L ((v,n,rows) :: O)→Grow h h'→Tl (K (v,h')) Q) : Tl (Ev.bnd o K) Q:=by
 obtain ⟨⟨v',h'⟩,rfl,X,g⟩:=C
 exact hk v' h' (S.gain g X) g
/-- 'append(l, x)' of a slice of one's own: what was known of all else stays. -/
theorem Tl.push {v x : Value} {rows : List (List Value)} {r : List Value} {e n bytes : Nat} {K : Value × AH→Option β} (S : Stt P n0 h0 h L O) (i : Nat) (hi : O[i]? = some (v,n,rows)) (T : AppT P #[t,t] e n bytes)
  (hb : pBuildSlice P t 1 #[(0,x)] h = some (.slice (some ⟨h.n,0,none⟩) 1 1,h.alloc (.cells r e true))) (hr : r.length = n) (hone : r.all oneCell = true) (hbig : (rows.length + 1 + 1024) * (bytes + 1) ≤ 2 ^ 46)
  (hk : ∀ v' h',Stt P n0 h0 h' L (O.set i (v',n,rows ++ [r]))→Tl (K (v',h')) Q) :
  Tl (Ev.bnd (pBuildSlice P t 1 #[(0,x)] h) fun q=>Ev.bnd (pAppend P #[t,t] v q.1 q.2) K) Q:=by
 rw [hb]
 have S1:=(S.alloc (.cells r e true)).drop
 obtain ⟨v',h',e1,e2,_,_⟩:=S1.append i hi T (slV_one hr) (by simpa using hbig) (by simpa using hone)
 show Tl (Ev.bnd (pAppend P #[t,t] v (.slice (some ⟨h.n,0,none⟩) 1 1) (h.alloc (.cells r e true))) K) Q
 rw [e1]
 exact hk v' h' e2
/-- 'append(l, m...)' -/
theorem Tl.append' {v x : Value} {rows rows' : List (List Value)} {ts : Array TypeId} {e n bytes : Nat} {K : Value × AH→Option β} (S : Stt P n0 h0 h L O) (i : Nat) (hi : O[i]? = some (v,n,rows)) (T : AppT P ts e n bytes) (B : SlV P h x n rows') (hone : rows'.flatten.all oneCell = true)
  (hbig : (rows.length + rows'.length + 1024) * (bytes + 1) ≤ 2 ^ 46) (hk : ∀ v' h',Stt P n0 h0 h' L (O.set i (v',n,rows ++ rows'))→Tl (K (v',h')) Q) : Tl (Ev.bnd (pAppend P ts v x h) K) Q:=by
 obtain ⟨v',h',e1,e2,_,_⟩:=S.append i hi T B hbig hone
 rw [e1]
 exact hk v' h' e2
/-- What one returns of one's own. -/
theorem Stt.ret (S : Stt P h0.n h0 h L O) (i : Nat) {v : Value} {n : Nat} {rows : List (List Value)} (hi : O[i]? = some (v,n,rows)) : OwnB P h0.n h v n rows:=by
 rcases S.own _ (List.mem_of_getElem? hi) with X | ⟨b,hb,_,X⟩
 ·exact .inl X
 ·exact .inr ⟨b,hb,X⟩
/-- A cell of what is known. -/
theorem Stt.cell (S : Stt P n0 h0 h L O) (i : Nat) {b o : Nat} {vs : List Value} {e : TypeId} {own : Bool} {v : Value} (hi : L[i]? = some (b,.cells vs e own)) (hv : vs[o]? = some v) : h.cell b o = some v:=(cell_of (S.sta.mem.at_ hi)).trans hv
end Go.Proofs.Ev
set_option linter.unusedVariables false
set_option linter.unusedSimpArgs false
namespace Go.Proofs.Ev
open Go Go.RowKit
variable {P : Program} {n0 : Nat} {h0 h : AH} {L : List (Nat × AO)} {O : List OS} {β : Type} {Q : β→Prop} {t : TypeId} {E : Env} {f : FuncId} {inv : Inv} {k : Nat} {a : Act}
theorem Stt.rdEnd (S : Stt P n0 h0 h L O) {x : XE} {l : Nat} {st : LoopState} {pend : Option Code} {f1 : FuncId} {ts1 : Array Value} {ps1 : Array Tmp} {as1 bd1 : Code} (i : Nat)
  (hi : L[i]? = some (l,.loop st pend f1 ts1 ps1 as1 bd1)) : ∃ h',Ev.rdEnd l x h = some (.bool (pendOf x).isNone,h') ∧ Stt P n0 h0 h' (L.set i (l,.loop (if (pendOf x).isNone then .ready else .done) (pendOf x) f1 ts1 ps1 as1 bd1)) O:=by
 unfold Ev.rdEnd
 rw [S.sta.mem.at_ hi]
 exact ⟨_,rfl,S.set i hi _⟩
/-- A range over a function that goes to its end. -/
theorem Tl.range' {fn : FuncId} {first captured : Array Value} {ps : Array Tmp} {as bd : Code} {K : XE→AH→Option β} (S : Stt P n0 h0 h L O) (C : List (Nat × AO)→List OS→Prop) (hent : E.enters (.func (.func fn) first captured) = true)
  (hcall : ∀ h1 bl,Stt P n0 h0 h1 ((bl,.loop .ready none f a.tmps ps as bd) :: L) O→Tl (inv (.func fn) captured (first ++ #[.func (.yield bl) #[] #[]]) h1) fun r=>∃ st f' ts ps' as' bd' L' O',st ≠ .busy ∧ Stt P n0 h0 r.2 ((bl,.loop st none f' ts ps' as' bd') :: L') O' ∧ C L' O')
  (hk : ∀ h2 L' O',Stt P n0 h0 h2 L' O'→C L' O'→Tl (K .normal h2) Q) : Tl (kRange E f inv (.func (.func fn) first captured) ps as bd a h K) Q:=by
 have S1:=S.alloc (.loop .ready none f a.tmps ps as bd)
 obtain ⟨⟨v,h'⟩,hc,st,f',ts,ps',as',bd',L',O',hst,S2,hC⟩:=hcall _ _ S1
 refine Tl.range (R:=fun h2=>∃ L' O',Stt P n0 h0 h2 L' O' ∧ C L' O') hent ⟨(v,h'),hc,st,f',ts,ps',as',bd',S2.sta.mem.at_ (i:=0) rfl,hst,L',O',(S2.set 0 rfl _).drop,hC⟩ ?_
 rintro h2 ⟨L'',O'',S3,hC'⟩
 exact hk h2 L'' O'' S3 hC'
/-- Where a value of a slice of one's own lies. -/
theorem Stt.idx (S : Stt P n0 h0 h L O) (i : Nat) {v : Value} {n : Nat} {rows : List (List Value)} (hi : O[i]? = some (v,n,rows)) {e : TypeId} {kd : IntKind} {j : Nat} (hj : j < rows.length) (hu : P.underlying t = some (.slice e)) (hs : szT P e = some n) :
  ∃ b,blkOf v = some b ∧ pIndexAddr P t v (.int kd (j : Int)) = some (.pointer (some ⟨b,j * n,none⟩)):=by
 rcases S.own _ (List.mem_of_getElem? hi) with ⟨_,q⟩ | ⟨b,_,_,X⟩
 ·simp only at q; subst q; simp at hj
 ·have X : SlX P h v n b rows:=X
  exact ⟨b,by rw [X.form]; rfl,X.idx hj hu hs⟩
theorem Tl.setAt {x v : Value} {K : Value × AH→Option β} {n b j : Nat} {rows : List (List Value)} (S : Stt P n0 h0 h L O) (i : Nat) (hi : O[i]? = some (v,n,rows)) (hb : blkOf v = some b) (hj : j < rows.length) (hr : x.cells.toList.length = n) (hs : szT P t = some n)
  (hone : x.cells.toList.all oneCell = true) (hk : ∀ h',Stt P n0 h0 h' L (O.set i (v,n,rows.set j x.cells.toList))→Tl (K (unk,h')) Q) :
  Tl (Ev.bnd (kSt (pStore P t (.pointer (some ⟨b,j * n,none⟩)) x h)) K) Q:=by
 obtain ⟨q1,q2,q3,X⟩:=(S.own _ (List.mem_of_getElem? hi)).blk hb
 obtain ⟨cs,ec,hg,hfit,hset⟩:=X.setRow hj hr
 have hx : x.cells.size = n:=by rw [← hr,Array.length_toList]
 unfold pStore
 simp only
 rw [hs,hone,← hx]
 simp only [Bool.true_and,beq_self_eq_true,if_true]
 unfold AH.put
 rw [hg]
 simp only
 rw [if_pos (by rw [Array.length_toList,hx]; exact hfit)]
 refine hk _ (S.put i hi (by simp) (fun c hc hne=>AH.get_set_other h _ fun q=>hne (by rw [hb,q])) (.inr ⟨b,q1,q3,?_⟩) fun c q _=>q)
 rw [hx]
 exact hset _ (AH.get_set_same h _ _ hg)
/-- What a call has made and left known. -/
theorem Stt.join (S : Stt P n0 h0 h L O) {h' : AH} {L' : List (Nat × AO)} {O' : List OS} (S' : Stt P h.n h h' L' O') : Stt P n0 h0 h' (L' ++ L) (O' ++ O):=by
 have g : Grow h h':=S'.grow
 have S1:=S.call g
 have hL' : ∀ p ∈ L',h.n ≤ p.1:=S'.sta.new
 have hL : ∀ p ∈ L,p.1 < h.n:=S.sta.mem.lt
 have hmem : Mem h' (L' ++ L):=by
  have a:=S'.sta.mem
  have b:=S1.sta.mem
  clear hL' S'
  induction L' with
  | nil=>exact b
  | cons q L' ih=>exact ⟨a.1,ih a.2⟩
 have hO' : ∀ x ∈ O',∀ b,blkOf x.1 = some b→h.n ≤ b:=fun x hx b hb=>((S'.own x hx).blk hb).1
 have hO : ∀ x ∈ O,∀ b,blkOf x.1 = some b→b < h.n:=fun x hx b hb=>((S.own x hx).blk hb).2.1
 refine ⟨⟨S1.sta.grow,S.sta.base,hmem,fun p hp=>?_,?_⟩,fun x hx=>?_,?_⟩
 ·rcases List.mem_append.1 hp with hp | hp
  ·exact Nat.le_trans S.sta.size (hL' p hp)
  ·exact S.sta.new p hp
 ·rw [List.map_append,List.nodup_append]
  refine ⟨S'.sta.nodup,S.sta.nodup,fun a ha b hb=>?_⟩
  obtain ⟨p,hp,rfl⟩:=List.mem_map.1 ha
  obtain ⟨q,hq,rfl⟩:=List.mem_map.1 hb
  have h1:=hL' p hp
  have h2:=hL q hq
  omega
 ·rcases List.mem_append.1 hx with hx | hx
  ·rcases S'.own x hx with X | ⟨b,h1,h2,X⟩
   ·exact .inl X
   ·refine .inr ⟨b,Nat.le_trans S.sta.size h1,?_,X⟩
    rw [List.map_append,List.mem_append]
    rintro (q | q)
    ·exact h2 q
    ·obtain ⟨p,hp,rfl⟩:=List.mem_map.1 q
     have:=hL p hp
     omega
  ·refine (S1.own x hx).sub fun b hb q=>?_
   rw [List.map_append,List.mem_append] at q
   rcases q with q | q
   ·obtain ⟨p,hp,rfl⟩:=List.mem_map.1 q
    have h1:=hL' p hp
    have h2:=hO x hx _ hb
    omega
   ·exact ((S1.own x hx).blk hb).2.2.1 q
 ·intro i j x y b hi hj q1 q2
  have hi2:=hi
  have hj2:=hj
  rw [List.getElem?_append] at hi hj
  split at hi
  ·rename_i li
   split at hj
   ·exact S'.apart i j x y b hi hj q1 q2
   ·have h1:=hO' x (List.mem_of_getElem? hi) b q1
    have h2:=hO y (List.mem_of_getElem? hj) b q2
    omega
  ·rename_i li
   split at hj
   ·have h1:=hO x (List.mem_of_getElem? hi) b q1
    have h2:=hO' y (List.mem_of_getElem? hj) b q2
    omega
   ·rename_i lj
    have:=S.apart _ _ x y b hi hj q1 q2
    omega
/-- One value that lies in a known block, as a slice. -/
theorem Stt.lit (S : Stt P n0 h0 h L O) (i : Nat) {c n : Nat} {r : List Value} {e : TypeId} {own : Bool} (hi : L[i]? = some (c,.cells r e own)) (hr : r.length = n) : SlV P h (.slice (some ⟨c,0,none⟩) 1 1) n [r] :=
 .inr ⟨c,0,1,own,rfl,Nat.le_refl _,⟨⟨r,e,S.sta.mem.at_ hi,fun _=>⟨by simp [hr],by simp [← hr]⟩⟩,fun q hq=>by simp at hq; rw [hq]; exact hr⟩⟩
theorem slV_same {h : AH} {v : Value} {n : Nat} {rows : List (List Value)} (S : SlV P h v n rows) : sameV v v = true:=by
 rcases S with ⟨rfl,_⟩ | ⟨b,o,c,own,rfl,_⟩ <;> simp [sameV,same0]
theorem ex2_0 {a b : Value} : pExtract (.tuple #[a,b]) 0 = some a:=by cases a <;> rfl
theorem ex2_1 {a b : Value} : pExtract (.tuple #[a,b]) 1 = some b:=by cases a <;> rfl
theorem ex3_0 {a b c : Value} : pExtract (.tuple #[a,b,c]) 0 = some a:=by cases a <;> rfl
theorem ex3_1 {a b c : Value} : pExtract (.tuple #[a,b,c]) 1 = some b:=by cases a <;> rfl
theorem ex3_2 {a b c : Value} : pExtract (.tuple #[a,b,c]) 2 = some c:=by cases a <;> rfl
/-- 'make(l, m)'. -/
theorem Tl.make' {e n bytes m : Nat} {z : Value} {K : Value × AH→Option β} (S : Stt P n0 h0 h L O) (T : AppT P #[t,t] e n bytes) (hz : zeroT P e = some z) (hm : bytes * m ≤ 2 ^ 47) (hm2 : m ≤ 2 ^ 62)
  (hk : ∀ v h',Stt P n0 h0 h' L ((v,n,List.replicate m z.cells.toList) :: O)→Grow h h'→Tl (K (v,h')) Q) : Tl (Ev.bnd (pMakeSlice P t (.int .i64 m) (.int .i64 m) h) K) Q:=by
 obtain ⟨z',hz',hzp,hzs⟩:=T.zero
 rw [hz] at hz'
 cases hz'
 have he : elemT P t = some e:=T.elem
 have hw : ∀ r ∈ List.replicate m z.cells.toList,r.length = n:=fun r hr=>by rw [List.eq_of_mem_replicate hr,Array.length_toList,hzs]
 have e1 : pMakeSlice P t (.int .i64 m) (.int .i64 m) h = some (.slice (some ⟨h.n,0,none⟩) m m,h.alloc (.cells ((List.replicate m z.cells.toList).flatten) e true)):=by
  unfold pMakeSlice
  simp only [he,T.size,T.byt,hz]
  rw [if_pos]
  ·simp
  ·refine ⟨by omega,by omega,by omega,?_,hzs,hzp⟩
   exact_mod_cast hm
 rw [e1]
 refine hk _ _ (S.gain (Grow.alloc _ _) (.inr ⟨h.n,Nat.le_refl _,⟨by simp,⟨⟨_,e,AH.get_alloc_new _ _,fun _=>⟨?_,?_⟩⟩,hw⟩,szOk_of (AH.get_alloc_new _ _) T.size⟩⟩)) (Grow.alloc _ _)
 ·have:=length_flat hw
  omega
 ·rw [List.drop_zero,← length_flat hw,List.take_length]
/-- A condition in another form. -/
theorem Tl.brC {c b : Bool} {x y : Option β} (hc : c = b) (h : Tl (brV (.bool b) x y) Q) : Tl (brV (.bool c) x y) Q:=hc ▸ h
theorem Tl.gdC {c b w : Bool} {s : Option (Value × AH)} {K : Value × AH→Option β} (hc : c = b) (hk : Tl (Ev.bnd (gd (some (.bool b)) w h s) K) Q) : Tl (Ev.bnd (gd (some (.bool c)) w h s) K) Q:=hc ▸ hk
theorem Tl.gd3C {c b w : Bool} {s : Option (Value × AH)} {K : Value × AH × Bool→Option β} (hc : c = b) (hk : Tl (Ev.bnd (gd3 (some (.bool b)) w h s) K) Q) : Tl (Ev.bnd (gd3 (some (.bool c)) w h s) K) Q:=hc ▸ hk
theorem goInt_eq {z : Int} : goInt z = .int .i64 z:=rfl
theorem map_some_eq {α γ : Type} {f : α→γ} {x : α} : (some x).map f = some (f x):=rfl
theorem cond_t0 {α : Type} {x y : α} : cond true x y = x:=rfl
theorem cond_f0 {α : Type} {x y : α} : cond false x y = y:=rfl
theorem beq_self0 {α : Type} [BEq α] [ReflBEq α] {a : α} : (a == a) = true:=beq_self_eq_true a
theorem bq_tf : (true == false) = false:=rfl
theorem bq_ft : (false == true) = false:=rfl
theorem bq_tt : (true == true) = true:=rfl
theorem bq_ff : (false == false) = true:=rfl
theorem ai {a b : Prop} (x : a) (y : b) : a ∧ b:=⟨x,y⟩
theorem zA : type_of% (ai @goInt_eq (ai @map_some_eq (ai @Nat.zero_add (ai @Bool.not_true (ai @Bool.not_false (ai @Bool.true_and (ai @Bool.false_and (ai @Bool.and_true (ai @Bool.and_false (ai @cond_t0 (ai @cond_f0 (ai @beq_self0 (ai @decide_true (ai @decide_false (ai @Bool.or_true (ai @Bool.or_false (ai @Bool.true_or (ai @Bool.false_or (ai @bnd_some (And.intro bq_tf (And.intro bq_ft (And.intro bq_tt (And.intro bq_ff (ai @bin_add (ai @bin_sub (ai @bin_mul (ai @bin_lss (ai @bin_leq (ai @bin_gtr (ai @bin_geq (ai @bin_eql (ai @bin_neq (ai @un_not (ai @un_neg (ai @gd_tt (ai @gd_ff (ai @gd_tf (ai @gd_ft (ai @gd_sk (ai @gd3_tt (ai @gd3_ff (ai @gd3_tf (ai @gd3_ft (ai @gd3_sk (ai @lt_some (ai @pick_t (ai @pick_f (ai @dlt_t (ai @dlt_f (ai @dle_t (ai @dle_f (ai @dgt_t (ai @dgt_f (ai @dge_t (ai @dge_f (ai @beq_t (ai @beq_f (ai @bne_t (ai @bne_f (ai @wr_i64 (ai @wr_u64 (@wr_u8)))))))))))))))))))))))))))))))))))))))))))))))))))))))))))))):=ai @goInt_eq (ai @map_some_eq (ai @Nat.zero_add (ai @Bool.not_true (ai @Bool.not_false (ai @Bool.true_and (ai @Bool.false_and (ai @Bool.and_true (ai @Bool.and_false (ai @cond_t0 (ai @cond_f0 (ai @beq_self0 (ai @decide_true (ai @decide_false (ai @Bool.or_true (ai @Bool.or_false (ai @Bool.true_or (ai @Bool.false_or (ai @bnd_some (And.intro bq_tf (And.intro bq_ft (And.intro bq_tt (And.intro bq_ff (ai @bin_add (ai @bin_sub (ai @bin_mul (ai @bin_lss (ai @bin_leq (ai @bin_gtr (ai @bin_geq (ai @bin_eql (ai @bin_neq (ai @un_not (ai @un_neg (ai @gd_tt (ai @gd_ff (ai @gd_tf (ai @gd_ft (ai @gd_sk (ai @gd3_tt (ai @gd3_ff (ai @gd3_tf (ai @gd3_ft (ai @gd3_sk (ai @lt_some (ai @pick_t (ai @pick_f (ai @dlt_t (ai @dlt_f (ai @dle_t (ai @dle_f (ai @dgt_t (ai @dgt_f (ai @dge_t (ai @dge_f (ai @beq_t (ai @beq_f (ai @bne_t (ai @bne_f (ai @wr_i64 (ai @wr_u64 (@wr_u8)))))))))))))))))))))))))))))))))))))))))))))))))))))))))))))
end Go.Proofs.Ev
set_option linter.unusedVariables false
set_option linter.unusedSimpArgs false
namespace Go.Proofs.Ev
open Go Go.RowKit Go.ChangeShapes Go.WideShapes
variable {P : Program} {H : Type} {enc : TypeId × Value→H} {W : World} {base b0 : Nat} {sp : Nat→Bool} {held : Bool} {r : Reach} {t e : TypeId} {v : Value} {d : DataW H} {ps : List MemPlace}
theorem open_slN {α : Type} (f : α→List Value) (ok : α→Prop) {n : Nat} (ht : P.underlying t = some (.slice e)) (hc : P.cellsOf e = n) (hn : 0 < n) (hrow : ∀ fuel q y,DataW.trod enc P W base sp held fuel e q = some y→∃ x,q = f x ∧ ok x) (htame : ∀ x,(f x).map (tame W.heap.size 8) = f x)
  (hv : Value.okWide P W r b0 t v) (hd : DataW.Trod enc P W base sp held t v d ps) : ∃ l : List α,SlE P (extHeap W) (tame W.heap.size 8 v) n (l.map f) ∧ (∀ x ∈ l,ok x) ∧ l.length ≤ maxLen:=by
 obtain ⟨rows,h1,h3,h2⟩:=open_rowsE ht hc hn hv hd
 have key : ∀ rows : List (List Value),(∀ (i : Nat) (q : List Value),rows[i]? = some q→∃ fuel y,DataW.trod enc P W base sp held fuel e q = some y)→∃ l : List α,rows = l.map f ∧ ∀ x ∈ l,ok x:=by
  intro rows
  induction rows with
  | nil=>intro _; exact ⟨[],rfl,fun x hx=>by cases hx⟩
  | cons q rows ih =>
   intro h
   obtain ⟨fuel,y,hy⟩:=h 0 q rfl
   obtain ⟨x,rfl,hx⟩:=hrow fuel q y hy
   obtain ⟨l,rfl,hl⟩:=ih fun i q hq=>h (i + 1) q (by simpa using hq)
   refine ⟨x :: l,rfl,fun z hz=>?_⟩
   rcases List.mem_cons.1 hz with rfl | hz
   ·exact hx
   ·exact hl z hz
 obtain ⟨l,rfl,hl⟩:=key rows h2
 refine ⟨l,?_,hl,by simpa using h3⟩
 rw [List.map_map] at h1
 rw [show (fun q=>List.map (tame W.heap.size 8) q) ∘ f = f from funext fun c=>htame c] at h1
 exact h1
theorem open_i64s (ht : P.underlying t = some (.slice e)) (hc : P.cellsOf e = 1) (hu : P.underlying e = some (.int .i64)) (hv : Value.okWide P W r b0 t v) (hd : DataW.Trod enc P W base sp held t v d ps) :
  ∃ l : List Int,SlE P (extHeap W) (tame W.heap.size 8 v) 1 (l.map fun x=>[.int .i64 x]) ∧ (∀ x ∈ l,-9223372036854775808 ≤ x ∧ x ≤ 9223372036854775807) ∧ l.length ≤ maxLen :=
 open_slN (fun x : Int=>[.int .i64 x]) _ ht hc (by omega) (fun fuel q y hq=>by
  obtain ⟨n,hn,_,w⟩:=DataW.trod_int hu hq
  exact ⟨n,hn,by simp [Lit.wf,IntKind.min,IntKind.max,IntKind.signed,IntKind.bits] at w; omega⟩) (fun x=>by simp [tame]) hv hd
section
variable {n0 : Nat} {h0 h : AH} {L : List (Nat × AO)} {O : List OS}
theorem Mem.iff {h : AH} {L : List (Nat × AO)} : Mem h L ↔ ∀ p ∈ L,h.get p.1 = some p.2:=by
 induction L with
 | nil=>simp [Mem]
 | cons q L ih=>simp [Mem,ih]
/-- The known blocks in another order. -/
theorem Stt.perm (S : Stt P n0 h0 h L O) {L' : List (Nat × AO)} (hp : L.Perm L') : Stt P n0 h0 h L' O:=by
 have hm : (L.map (·.1)).Perm (L'.map (·.1)):=hp.map _
 refine ⟨⟨S.sta.grow,S.sta.base,Mem.iff.2 fun p q=>Mem.iff.1 S.sta.mem p (hp.mem_iff.2 q),fun p q=>S.sta.new p (hp.mem_iff.2 q),hm.nodup_iff.1 S.sta.nodup⟩,fun o ho=>(S.own o ho).sub fun b hb q=>?_,S.apart⟩
 exact ((S.own o ho).blk hb).2.2.1 (hm.mem_iff.2 q)
/-- A slice of one's own as a known block. -/
theorem Stt.expose {v : Value} {n : Nat} {rows : List (List Value)} (S : Stt P n0 h0 h L ((v,n,rows) :: O)) : (v = .slice none 0 0 ∧ rows = [] ∧ Stt P n0 h0 h L O) ∨
  ∃ b cs e,v = .slice (some ⟨b,0,none⟩) rows.length rows.length ∧ (rows ≠ []→0 + rows.length * n ≤ cs.length ∧ (cs.drop 0).take (rows.length * n) = rows.flatten) ∧ szT P e = some n ∧ Stt P n0 h0 h ((b,.cells cs e true) :: L) O:=by
 rcases S.own _ (List.mem_cons_self ..) with ⟨q1,q2⟩ | ⟨b,h1,h2,X⟩
 ·exact .inl ⟨q1,q2,S.dropO⟩
 ·have X : SlX P h v n b rows:=X
  obtain ⟨cs,e,hg,hc⟩:=X.lie.lies
  have hz : szT P e = some n:=by
   have:=X.sz
   unfold szOk at this
   simp only [hg] at this
   simpa using this
  refine .inr ⟨b,cs,e,X.form,hc,hz,⟨S.sta.add h1 h2 hg,fun o ho=>(S.own o (by simp [ho])).sub fun c hc2 q=>?_,S.dropO.apart⟩⟩
  rw [List.map_cons,List.mem_cons] at q
  rcases q with q | q
  ·simp only at q
   subst q
   obtain ⟨i,hi⟩:=List.mem_iff_getElem?.1 ho
   have:=S.apart 0 (i + 1) (v,n,rows) o c rfl (by simpa using hi) (by rw [X.form]; rfl) hc2
   omega
  ·exact ((S.own o (by simp [ho])).blk hc2).2.2.1 q
end
section
variable {n0 : Nat} {h0 h : AH} {L : List (Nat × AO)} {O : List OS} {β : Type} {Q : β→Prop}
/-- A known block as a slice of one's own. -/
theorem Stt.absorb {b n : Nat} {rows : List (List Value)} {e : TypeId} (S : Stt P n0 h0 h ((b,.cells rows.flatten e true) :: L) O) (hw : ∀ r ∈ rows,r.length = n) (hs : szT P e = some n) : Stt P n0 h0 h L ((.slice (some ⟨b,0,none⟩) rows.length rows.length,n,rows) :: O):=by
 have hg:=S.sta.mem.at_ (i:=0) rfl
 simp only at hg
 have hnd:=S.sta.nodup
 rw [List.map_cons,List.nodup_cons] at hnd
 have S1:=S.drop
 refine ⟨S1.sta,fun o ho=>?_,?_⟩
 ·rcases List.mem_cons.1 ho with rfl | ho
  ·refine .inr ⟨b,S.sta.new _ (List.mem_cons_self ..),hnd.1,⟨rfl,⟨⟨_,e,hg,fun _=>⟨?_,?_⟩⟩,hw⟩,szOk_of hg hs⟩⟩
   ·have:=length_flat hw; simp only; omega
   ·rw [List.drop_zero,← length_flat hw,List.take_length]
  ·exact S1.own o ho
 ·have key : ∀ (j : Nat) (y : OS),O[j]? = some y→blkOf y.1 = some b→False:=fun j y hj q=>by
   have:=((S.own y (List.mem_of_getElem? hj)).blk q).2.2.1
   exact this (by simp)
  intro i j x y c hi hj q1 q2
  cases i with
  | zero =>
   simp at hi; subst hi
   simp only [blkOf,Option.some.injEq] at q1
   subst q1
   cases j with
   | zero=>rfl
   | succ j=>exact (key j y (by simpa using hj) q2).elim
  | succ i =>
   cases j with
   | zero =>
    simp at hj; subst hj
    simp only [blkOf,Option.some.injEq] at q2
    subst q2
    exact (key i x (by simpa using hi) q1).elim
   | succ j =>
    have:=S1.apart i j x y c (by simpa using hi) (by simpa using hj) q1 q2
    omega
end
theorem bin_eql_string {t : TypeId} {ox oy : Operand} {a b : ByteArray} : pBin P .eql t ox oy (.string a) (.string b) = some (.bool (decide (a = b))):=by
 have h1 : pBin P .eql t ox oy (.string a) (.string b) = some (.bool (a.toList == b.toList)):=rfl
 rw [h1,← beq_toListBytes,beqB_dec]
theorem bin_neq_string {t : TypeId} {ox oy : Operand} {a b : ByteArray} : pBin P .neq t ox oy (.string a) (.string b) = some (.bool (!decide (a = b))):=by
 have h1 : pBin P .neq t ox oy (.string a) (.string b) = some (.bool (!(a.toList == b.toList))):=rfl
 rw [h1,← beq_toListBytes,beqB_dec]
end Go.Proofs.Ev
set_option linter.unusedVariables false
set_option linter.unusedSimpArgs false
namespace Go.Proofs.Ev
open Go Go.RowKit Go.ChangeShapes Go.WideShapes
variable {P : Program}
/-- A slice of rows, or one of no room at all wherever it points. -/
def SlZ (P : Program) (h : AH) (v : Value) (n : Nat) (rows : List (List Value)) : Prop:=SlV P h v n rows ∨ rows = [] ∧ ∃ a,v = .slice (some a) 0 0
theorem SlV.z {h : AH} {v : Value} {n : Nat} {rows : List (List Value)} (S : SlV P h v n rows) : SlZ P h v n rows:=.inl S
theorem SlZ.grow {h h' : AH} {v : Value} {n : Nat} {rows : List (List Value)} (S : SlZ P h v n rows) (g : Grow h h') : SlZ P h' v n rows:=S.imp (·.grow g) id
theorem SlZ.len {h h' : AH} {v : Value} {n : Nat} {rows : List (List Value)} (S : SlZ P h v n rows) {t e : TypeId} (ht : P.underlying t = some (.slice e)) : pLen P #[t] v h' = some (.int .i64 rows.length):=by
 rcases S with S | ⟨rfl,a,rfl⟩
 ·exact S.len ht
 ·unfold pLen
  simp [ht,goInt]
theorem SlZ.at_ {h : AH} {v : Value} {n : Nat} {rows : List (List Value)} (S : SlZ P h v n rows) {t e : TypeId} {k : IntKind} {i : Nat} {r : List Value} (hi : rows[i]? = some r) (ht : P.underlying t = some (.slice e)) (hs : szT P e = some n) :
  ∃ b o,pIndexAddr P t v (.int k i) = some (.pointer (some ⟨b,o,none⟩)) ∧ h.row b o n = some r:=by
 rcases S with S | ⟨rfl,a,rfl⟩
 ·exact S.at_ hi ht hs
 ·simp at hi
theorem SlZ.same {h : AH} {v : Value} {n : Nat} {rows : List (List Value)} (S : SlZ P h v n rows) : sameV v v = true:=by
 rcases S with S | ⟨_,a,rfl⟩
 ·exact slV_same S
 ·simp [sameV,same0]
theorem SlZ.one {h : AH} {v : Value} {n : Nat} {rows : List (List Value)} (S : SlZ P h v n rows) : oneCell v = true:=by
 rcases S with (⟨rfl,_⟩ | ⟨b,off,cap,own,rfl,_⟩) | ⟨_,a,rfl⟩ <;> rfl
theorem SlZ.cells {h : AH} {v : Value} {n : Nat} {rows : List (List Value)} (S : SlZ P h v n rows) : v.cells = #[v]:=by
 rcases S with (⟨rfl,_⟩ | ⟨b,off,cap,own,rfl,_⟩) | ⟨_,a,rfl⟩ <;> rfl
theorem SlZ.form {h : AH} {v : Value} {n : Nat} {rows : List (List Value)} (S : SlZ P h v n rows) : ∃ a cap,v = .slice a rows.length cap ∧ rows.length ≤ cap:=by
 rcases S with S | ⟨rfl,a,rfl⟩
 ·exact S.form
 ·exact ⟨_,_,rfl,Nat.le_refl _⟩
theorem SlZ.cellsOf {h : AH} {v : Value} {n : Nat} {rows : List (List Value)} (S : SlZ P h v n rows) (hn : 0 < n) : cellsOf P n rows.length v h = some rows.flatten:=by
 rcases S with S | ⟨rfl,a,rfl⟩
 ·exact S.cellsOf hn
 ·unfold Ev.cellsOf
  simp
/-- What a value of a slice type that is trod tells: alone by the reading, whatever it lies in. -/
theorem open_inner {H : Type} {enc : TypeId × Value→H} {W : World} {base : Nat} {held : Bool} {t e : TypeId} {n fuel : Nat} {cs : List Value} {y : DataW H × List MemPlace}
  (ht : P.underlying t = some (.slice e)) (hc : P.cellsOf e = n) (hpos : 0 < n) (hf : DataW.trod enc P W base (fun _=>true) held fuel t cs = some y) :
  ∃ (v : Value) (rows : List (List Value)),cs = [v] ∧ SlZ P (extHeap W) (tame W.heap.size 8 v) n (rows.map fun q=>q.map (tame W.heap.size 8)) ∧ rows.length ≤ maxLen ∧ ∀ q ∈ rows,∃ fuel y,DataW.trod enc P W base (fun _=>true) held fuel e q = some y:=by
 rcases DataW.trod_slice ht hf with ⟨rfl,_⟩ | ⟨a,len,cap,elems,rest,m,rfl,rfl,_,hb,hl,hcap,hel,hget,hsp,_⟩
 ·exact ⟨_,[],rfl,.inl (.inl ⟨rfl,rfl⟩),Nat.zero_le _,fun q h=>by simp at h⟩
 ·rcases Nat.eq_zero_or_pos cap with hz | hz
  ·subst hz
   have : len = 0:=by omega
   subst this
   refine ⟨_,[],rfl,.inr ⟨rfl,a,?_⟩,Nat.zero_le _,fun q h=>by simp at h⟩
   unfold tame
   simp
  ·rw [hc] at hget hsp
   obtain ⟨hr,hrest⟩:=hsp rfl
   have some1 : ∃ cs,W.cells? base a n = some cs:=by
    rcases Nat.eq_zero_or_pos len with h0 | h0
    ·have h1:=hrest 0 (by omega)
     obtain ⟨z,hz'⟩ : ∃ z,rest[0]? = some z:=⟨_,List.getElem?_eq_getElem (by omega)⟩
     rw [hz',Option.bind_eq_some_iff] at h1
     obtain ⟨cs,h2,_⟩:=h1
     subst h0
     rw [show a.add ((0 + 0) * n) = a by obtain ⟨b,o,s⟩:=a; simp [Addr.add]] at h2
     exact ⟨cs,h2⟩
    ·have h1:=hget 0 h0
     obtain ⟨z,hz'⟩ : ∃ z,elems[0]? = some z:=⟨_,List.getElem?_eq_getElem (by omega)⟩
     rw [hz',Option.bind_eq_some_iff] at h1
     obtain ⟨cs,h2,_⟩:=h1
     rw [show a.add (0 * n) = a by obtain ⟨b,o,s⟩:=a; simp [Addr.add]] at h2
     exact ⟨cs,h2⟩
   obtain ⟨cs0,hcs0⟩:=some1
   have hcell0 : ∃ z,W.cell? a = some z:=by
    unfold World.cells? at hcs0
    rw [if_pos hb] at hcs0
    obtain ⟨h4,h5⟩:=mapM_at hcs0
    have h6:=h5 0 0 (by simp [hpos])
    rw [show a.add 0 = a by obtain ⟨b,o,s⟩:=a; simp [Addr.add]] at h6
    obtain ⟨z,hz'⟩ : ∃ z,cs0[0]? = some z:=⟨_,List.getElem?_eq_getElem (by rw [h4]; simpa using hpos)⟩
    exact ⟨z,h6.trans hz'⟩
   obtain ⟨z0,hz0⟩:=hcell0
   unfold World.cell? at hz0
   split at hz0
   case h_2=>cases hz0
   rename_i c e' fz hheap
   split at hz0
   case isTrue=>cases hz0
   rename_i hspot
   obtain ⟨blk,off,spot⟩:=a
   have hspot : spot = none:=by simpa using hspot
   subst hspot
   simp only at hheap
   have hcell : ∀ o,W.cell? ⟨blk,o,none⟩ = c[o]?:=fun o=>by unfold World.cell?; simp only [hheap]; simp
   have hlt : blk < W.heap.size:=(Array.getElem?_eq_some_iff.1 hheap).1
   have each : ∀ i,i < len→off + i * n + n ≤ c.size ∧ ∃ fuel y,DataW.trod enc P W base (fun _=>true) held fuel e ((c.toList.drop (off + i * n)).take n) = some y:=by
    intro i hi
    have h1:=hget i hi
    obtain ⟨y,hy⟩ : ∃ y,elems[i]? = some y:=⟨_,List.getElem?_eq_getElem (by rw [hel]; exact hi)⟩
    rw [hy,Option.bind_eq_some_iff] at h1
    obtain ⟨cs,h2,h3⟩:=h1
    unfold World.cells? at h2
    split at h2
    case isFalse=>cases h2
    obtain ⟨h4,h5⟩:=mapM_at h2
    have h6 : ∀ j,j < n→cs[j]? = c[off + i * n + j]?:=by
     intro j hj
     have:=h5 j j (by simp [hj])
     refine Eq.trans this.symm ?_
     have q:=hcell (off + i * n + j)
     rw [addr_add,addr_add]
     exact q
    have h7 : off + i * n + n ≤ c.size:=by
     have h8:=h6 (n - 1) (by omega)
     have h9 : n - 1 < cs.length:=by rw [h4]; simp; omega
     rw [List.getElem?_eq_getElem h9] at h8
     have:=(Array.getElem?_eq_some_iff.1 h8.symm).1
     omega
    refine ⟨h7,m,y,?_⟩
    have : (c.toList.drop (off + i * n)).take n = cs:=by
     refine List.ext_getElem? fun j=>?_
     by_cases hj : j < n
     ·rw [List.getElem?_take_of_lt hj,List.getElem?_drop,h6 j hj]
      simp
     ·rw [List.getElem?_eq_none (by simp; omega),List.getElem?_eq_none (by rw [h4]; simp; omega)]
    rw [this]
    exact h3
   refine ⟨_,(List.range len).map fun i=>(c.toList.drop (off + i * n)).take n,rfl,.inl (.inr ⟨blk,off,cap,false,?_,by simpa using hl,⟨⟨c.toList.map (tame W.heap.size 8),e',?_,?_⟩,?_⟩⟩),by simp; omega,?_⟩
   ·have : tameAddr W.heap.size ⟨blk,off,none⟩ = true:=by simp [tameAddr,hlt]
    simp [tame,this]
   ·rw [extHeap_get,hheap]
    rfl
   ·intro hne
    have hlen : 0 < len:=by
     rcases Nat.eq_zero_or_pos len with h | h
     ·subst h; simp at hne
     ·exact h
    have hb1:=(each (len - 1) (by omega)).1
    have hmul : (len - 1) * n + n = len * n:=by
     rw [← Nat.succ_mul]; congr 1; omega
    simp only [List.length_map,List.length_range]
    refine ⟨by rw [Array.length_toList]; omega,?_⟩
    rw [← flat_range (L:=c.toList.map (tame W.heap.size 8)) len]
    simp [List.map_take,List.map_drop,Function.comp_def]
   ·intro q hq
    simp only [List.map_map,List.mem_map,List.mem_range,Function.comp_apply] at hq
    obtain ⟨i,hi,rfl⟩:=hq
    have:=(each i hi).1
    simp
    omega
   ·intro q hq
    simp only [List.mem_map,List.mem_range] at hq
    obtain ⟨j,hj,rfl⟩:=hq
    exact (each j hj).2
end Go.Proofs.Ev
namespace Go.Proofs.Ev
open Go Go.RowKit
variable {P : Program} {n0 : Nat} {h0 h : AH} {L : List (Nat × AO)} {O : List OS} {β : Type} {Q : β→Prop}
/-! ### Closures, maps, whole blocks -/
theorem callV_cap1 {E : Env} {k : Nat} {f : FuncId} {c a : Value} {h : AH} (hX : (E.X f).isNone = true) : callV (eInv E (k + 1)) (.func (.func f) #[] #[c]) #[a] h = eFun E k (eInv E k) f #[a,c] h:=by
 show eInv E (k + 1) (.func f) #[c] (#[] ++ #[a]) h = _
 rw [show ((#[] : Array Value) ++ #[a]) = #[a] by simp,inv_cap hX,show (#[a] : Array Value) ++ #[c] = #[a,c] by simp]
theorem callV_fn1 (inv : Inv) (f : FuncId) (a : Value) (h : AH) : callV inv (.func (.func f) #[] #[]) #[a] h = inv (.func f) #[] #[a] h:=by
 show inv (.func f) #[] (#[] ++ #[a]) h = _
 rw [show ((#[] : Array Value) ++ #[a]) = #[a] by simp]
theorem callV_fn2 (inv : Inv) (f : FuncId) (a b : Value) (h : AH) : callV inv (.func (.func f) #[] #[]) #[a,b] h = inv (.func f) #[] #[a,b] h:=by
 show inv (.func f) #[] (#[] ++ #[a,b]) h = _
 rw [show ((#[] : Array Value) ++ #[a,b]) = #[a,b] by simp]
theorem Grow.row {h h' : AH} (g : Grow h h') {b o n : Nat} {r : List Value} (hrow : h.row b o n = some r) : h'.row b o n = some r:=by
 have hb : b < h.n:=by
  unfold AH.row at hrow
  split at hrow
  ·rename_i hg; exact AH.get_lt hg
  ·cases hrow
 unfold AH.row at hrow ⊢
 rw [g.2 b hb]
 exact hrow
theorem Grow.cell {h h' : AH} (g : Grow h h') {b o : Nat} {v : Value} (hc : h.cell b o = some v) : h'.cell b o = some v:=by
 have hb : b < h.n:=by
  unfold AH.cell at hc
  split at hc
  ·rename_i hg; exact AH.get_lt hg
  ·cases hc
 unfold AH.cell at hc ⊢
 rw [g.2 b hb]
 exact hc
/-- The whole of a known block. -/
theorem Stt.row (S : Stt P n0 h0 h L O) (i : Nat) {b n : Nat} {vs : List Value} {e : TypeId} {own : Bool} (hi : L[i]? = some (b,.cells vs e own)) (hn : n = vs.length) : h.row b 0 n = some vs:=by
 subst hn
 rw [row_of (S.sta.mem.at_ hi)]
 simp
theorem Stt.part (S : Stt P n0 h0 h L O) (i : Nat) {b o n : Nat} {vs ws : List Value} {e : TypeId} {own : Bool} (hi : L[i]? = some (b,.cells vs e own)) (hn : o + n ≤ vs.length) (hw : (vs.drop o).take n = ws) : h.row b o n = some ws:=by
 rw [row_of (S.sta.mem.at_ hi),if_pos hn,hw]
theorem Tl.mkmap {t k e : TypeId} {K : Value × AH→Option β} (S : Stt P n0 h0 h L O) (hm : mapT P t = some (k,e)) (hk : ∀ m h',Stt P n0 h0 h' ((m,.map [] 0) :: L) O→Grow h h'→Tl (K (.map (some m),h')) Q) : Tl (Ev.bnd (pMakeMap P t none h) K) Q:=by
 unfold pMakeMap
 rw [hm]
 exact hk _ _ (S.alloc _) (Grow.alloc _ _)
theorem Tl.upd {t kt et : TypeId} {kd : TypeDesc} {m clock : Nat} {k x : Value} {es : List MapEntry} {K : Value × AH→Option β} (S : Stt P n0 h0 h L O) (i : Nat) (hi : L[i]? = some (m,.map es clock)) (hm : mapT P t = some (kt,et)) (hu : P.underlying kt = some kd)
  (hk : keyOk kd k = true) (hx : kn x = true) (hf : findE kd k es 0 = some none) (hn : ∀ h',Stt P n0 h0 h' (L.set i (m,.map (es ++ [{ key:=k,val:=x,born:=clock }]) (clock + 1))) O→Tl (K (unk,h')) Q) : Tl (Ev.bnd (kSt (pUpdate P t (.map (some m)) k x h)) K) Q:=by
 unfold pUpdate
 simp only [hm,hu,S.sta.mem.at_ hi,hk,hx,Bool.and_self,if_true,hf]
 exact hn _ (S.set i hi _)
end Go.Proofs.Ev
namespace Go.Proofs.Ev
open Go Go.RowKit
variable {P : Program} {n0 : Nat} {h0 h : AH} {L : List (Nat × AO)} {O : List OS} {β : Type} {Q : β→Prop} {t : TypeId}
/-- A part of a known block, as a slice. -/
theorem Stt.sub (S : Stt P n0 h0 h L O) (i : Nat) {b n cap : Nat} {cs : List Value} {rows : List (List Value)} {e : TypeId} {own : Bool} (hi : L[i]? = some (b,.cells cs e own)) (hw : ∀ r ∈ rows,r.length = n) (hc : rows.length ≤ cap)
  (hfit : rows.length * n ≤ cs.length) (hcs : cs.take (rows.length * n) = rows.flatten) : SlV P h (.slice (some ⟨b,0,none⟩) rows.length cap) n rows :=
 .inr ⟨b,0,cap,own,rfl,hc,⟨⟨cs,e,S.sta.mem.at_ hi,fun _=>⟨by omega,by rw [List.drop_zero]; exact hcs⟩⟩,hw⟩⟩
end Go.Proofs.Ev
namespace Go.Proofs.Ev
open Go Go.RowKit
variable {P : Program} {n0 : Nat} {h0 h : AH} {L : List (Nat × AO)} {O : List OS} {β : Type} {Q : β→Prop} {t : TypeId}
/-- A slice of one's own that is not written any more. -/
theorem Stt.freeze {v : Value} {n : Nat} {rows : List (List Value)} (S : Stt P n0 h0 h L ((v,n,rows) :: O)) : ∃ F,Stt P n0 h0 h (F ++ L) O ∧ ∀ h',Mem h' F→SlV P h' v n rows:=by
 have hw : ∀ r ∈ rows,r.length = n:=by
  rcases S.own _ (List.mem_cons_self ..) with ⟨_,q2⟩ | ⟨b,_,_,X⟩
  ·simp only at q2; subst q2; intro r hr; cases hr
  ·exact X.lie.wide
 rcases S.expose with ⟨rfl,rfl,S1⟩ | ⟨b,cs,e,rfl,hc,_,S1⟩
 ·exact ⟨[],S1,fun h' _=>.inl ⟨rfl,rfl⟩⟩
 ·exact ⟨[(b,.cells cs e true)],S1,fun h' hm=>.inr ⟨b,0,rows.length,true,rfl,Nat.le_refl _,⟨⟨cs,e,hm.1,hc⟩,hw⟩⟩⟩
end Go.Proofs.Ev
namespace Go.Proofs.Ev
open Go Go.RowKit
variable {P : Program}
/-- The first ones of a slice. -/
theorem SlZ.take {h : AH} {v : Value} {n : Nat} {rows : List (List Value)} (S : SlZ P h v n rows) {t e : TypeId} (ht : P.underlying t = some (.slice e)) (hs : szT P e = some n) {k : IntKind} {i : Nat} (hi : i ≤ rows.length) :
  ∃ v',(∀ h',pSlice P t v none (some (.int k i)) none h' = some v') ∧ SlZ P h v' n (rows.take i) ∧ sameV v' v' = true:=by
 have hel : elemT P t = some e:=by unfold elemT; rw [ht]
 rcases S with (⟨rfl,rfl⟩ | ⟨b,off,cap,own,rfl,h2,L⟩) | ⟨rfl,a,rfl⟩
 ·have : i = 0:=by simpa using hi
  subst this
  refine ⟨.slice none 0 0,fun h'=>?_,.inl (.inl ⟨rfl,rfl⟩),by simp [sameV,same0]⟩
  unfold pSlice
  simp only [hel,Option.bind_some,hs,intOr]
  simp
 ·refine ⟨.slice (some ⟨b,off,none⟩) i cap,fun h'=>?_,.inl (.inr ⟨b,off,cap,own,?_,?_,?_⟩),by simp [sameV,same0]⟩
  ·unfold pSlice
   simp only [hel,Option.bind_some,hs,intOr]
   rw [if_pos ⟨by omega,by omega,by omega,by omega,.inl rfl,.inl trivial⟩]
   simp
  ·rw [List.length_take,Nat.min_eq_left hi]
  ·rw [List.length_take]; omega
  ·have:=L.part 0 i (by omega)
   simpa using this
 ·have : i = 0:=by simpa using hi
  subst this
  refine ⟨.slice (some ⟨a.block,a.off,none⟩) 0 0,fun h'=>?_,.inr ⟨by simp,_,rfl⟩,by simp [sameV,same0]⟩
  unfold pSlice
  simp only [hel,Option.bind_some,hs,intOr]
  simp
end Go.Proofs.Ev
namespace Go.Proofs.Ev
open Go Go.RowKit
variable {P : Program} {n0 : Nat} {h0 h : AH} {L : List (Nat × AO)} {O : List OS}
theorem SlZ.lenE {h : AH} {v : Value} {n : Nat} {rows : List (List Value)} (S : SlZ P h v n rows) : lenE v = some rows.length:=by
 obtain ⟨a,c,rfl,_⟩:=S.form
 rfl
/-- Appended to a slice of one's own: whatever is appended. -/
theorem Stt.appendZ (S : Stt P n0 h0 h L O) (i : Nat) {v x : Value} {n e bytes : Nat} {ts : Array TypeId} {rows rows' : List (List Value)} (hi : O[i]? = some (v,n,rows)) (T : AppT P ts e n bytes) (B : SlZ P h x n rows')
  (hbig : (rows.length + rows'.length + 1024) * (bytes + 1) ≤ 2 ^ 46) (hone : rows'.flatten.all oneCell = true) :
  ∃ v' h',pAppend P ts v x h = some (v',h') ∧ Stt P n0 h0 h' L (O.set i (v',n,rows ++ rows')):=by
 rcases B with B | ⟨rfl,a,rfl⟩
 ·obtain ⟨v',h',e1,e2,_,_⟩:=S.append i hi T B hbig hone
  exact ⟨v',h',e1,e2⟩
 ·have X:=S.own _ (List.mem_of_getElem? hi)
  simp only at X
  refine ⟨v,h,?_,by
   rw [List.append_nil]
   have : O.set i (v,n,rows) = O:=by
    refine List.ext_getElem? fun k=>?_
    rw [List.getElem?_set]
    split
    ·rename_i hk; subst hk
     have hlt:=(List.getElem?_eq_some_iff.1 hi).1
     rw [if_pos hlt,hi]
    ·rfl
   rw [this]
   exact S⟩
  obtain ⟨e',he'⟩:=T.other
  obtain ⟨z,hz,hzp,hzs⟩:=T.zero
  obtain ⟨m,rfl⟩ : ∃ m,n = m + 1:=⟨n - 1,by have:=T.pos; omega⟩
  have hA:=X.slV.cellsOf (by omega)
  have hB : cellsOf P (m + 1) 0 (.slice (some a) 0 0) h = some []:=by unfold cellsOf; simp
  rcases X with ⟨rfl,rfl⟩ | ⟨b,hb,hn,X⟩
  ·unfold pAppend
   rw [T.elem,he']
   simp only [isIntT_slice,Bool.false_eq_true,if_false,T.size,T.byt,Ev.lenE,hz,hB]
   rfl
  ·have:=X.form
   subst this
   unfold pAppend
   rw [T.elem,he']
   simp only [isIntT_slice,Bool.false_eq_true,if_false,T.size,T.byt,Ev.lenE,hz,hA,hB]
   rw [if_pos (by simp)]
   simp
end Go.Proofs.Ev
set_option linter.unusedVariables false
set_option linter.unusedSimpArgs false
namespace Go.Proofs.Ev
open Go Go.RowKit
variable {P : Program}
structure Src (P : Program) (h : AH) (x : Value) (n : Nat) (rows' : List (List Value)) : Prop where
 len : lenE x = some rows'.length
 cells : 0 < n→cellsOf P n rows'.length x h = some rows'.flatten
 wide : ∀ r ∈ rows',r.length = n
structure AppG (P : Program) (ts : Array TypeId) (e n bytes : Nat) : Prop where
 elem : ts[0]?.bind (elemT P) = some e
 other : ∃ u,ts[1]?.bind P.underlying = some u ∧ isIntT u = false
 size : szT P e = some n
 pos : 0 < n
 byt : bytesT P e = some bytes
 zero : ∃ z,zeroT P e = some z ∧ z.cells.toList.all plain0 = true ∧ z.cells.size = n
theorem append_newG {ts : Array TypeId} {e n bytes : Nat} (T : AppG P ts e n bytes) {h : AH} {a : Option Addr} {cap : Nat} {x : Value} {rows rows' : List (List Value)} (A : SlV P h (.slice a rows.length cap) n rows) (B : Src P h x n rows')
  (hszok : szOk P a n h = true) (hoff : offOk a = true) (hfull : cap < rows.length + rows'.length) (hbig : (rows.length + rows'.length + 1024) * (bytes + 1) ≤ 2 ^ 46) (hone : rows'.flatten.all oneCell = true) :
  ∃ h',pAppend P ts (.slice a rows.length cap) x h = some (.slice (some ⟨h.n,0,none⟩) (rows.length + rows'.length) (rows.length + rows'.length),h') ∧ Lie P h' h.n 0 n true (rows ++ rows') ∧ szOk P (some ⟨h.n,0,none⟩) n h' = true ∧ h'.n = h.n + 1 ∧
   ∀ i,i < h.n→(∀ a',a = some a'→i ≠ a'.block)→h'.get i = h.get i:=by
 obtain ⟨u,he',hu⟩:=T.other
 obtain ⟨z,hz,hzp,hzs⟩:=T.zero
 obtain ⟨m,rfl⟩ : ∃ m,n = m + 1:=⟨n - 1,by have:=T.pos; omega⟩
 have hA:=A.cellsOf (by omega)
 have hB:=B.cells (by omega)
 have hwA : ∀ r ∈ rows,r.length = m + 1:=by
  rcases A with ⟨_,rfl⟩ | ⟨_,_,_,_,_,_,L⟩
  ·intro r hr; cases hr
  ·exact L.wide
 have hwB:=B.wide
 unfold pAppend
 rw [T.elem,he']
 simp only [hu,Bool.false_eq_true,if_false,T.size,T.byt,B.len,hz,hA,hB]
 rw [if_neg (by omega),if_pos (by
  simp only [Bool.and_eq_true,decide_eq_true_eq,beq_iff_eq]
  exact ⟨⟨⟨⟨⟨hbig,hzp⟩,hzs⟩,hszok,hoff⟩,hone⟩,by rw [length_flat hwB]⟩)]
 have hnew : AH.get ((match a with
   | none=>h
   | some a=>kill h a.block (a.off + cap * (m + 1))).alloc (.cells (rows.flatten ++ rows'.flatten) e true)) h.n = some (.cells (rows.flatten ++ rows'.flatten) e true):=by
  cases a with
  | none=>exact AH.get_alloc_new _ _
  | some a=>have:=AH.get_alloc_new (kill h a.block (a.off + cap * (m + 1))) (.cells (rows.flatten ++ rows'.flatten) e true); rw [kill_n] at this; exact this
 refine ⟨_,rfl,⟨⟨rows.flatten ++ rows'.flatten,e,hnew,fun _=>⟨?_,?_⟩⟩,?_⟩,?_,?_,?_⟩
 ·simp [length_flat hwA,length_flat hwB,Nat.add_mul]
 ·have : (rows ++ rows').length * (m + 1) = (rows.flatten ++ rows'.flatten).length:=by simp [length_flat hwA,length_flat hwB,Nat.add_mul]
  rw [this,List.drop_zero,List.take_length,List.flatten_append]
 ·intro r hr
  rcases List.mem_append.1 hr with hr | hr
  ·exact hwA r hr
  ·exact hwB r hr
 ·exact szOk_of hnew T.size
 ·cases a with
  | none=>simp
  | some a=>simp [kill_n]
 ·intro i hi ha
  cases a with
  | none=>exact AH.get_alloc_old _ _ hi
  | some a=>exact (AH.get_alloc_old _ _ (by rw [kill_n]; exact hi)).trans (kill_get (ha a rfl))
variable {n0 : Nat} {h0 h : AH} {L : List (Nat × AO)} {O : List OS} {β : Type} {Q : β→Prop} {t : TypeId}
theorem Stt.appendG (S : Stt P n0 h0 h L O) (i : Nat) {v x : Value} {n e bytes : Nat} {ts : Array TypeId} {rows rows' : List (List Value)} (hi : O[i]? = some (v,n,rows)) (T : AppG P ts e n bytes) (B : Src P h x n rows')
  (hbig : (rows.length + rows'.length + 1024) * (bytes + 1) ≤ 2 ^ 46) (hone : rows'.flatten.all oneCell = true) :
  ∃ v' h',pAppend P ts v x h = some (v',h') ∧ Stt P n0 h0 h' L (O.set i (v',n,rows ++ rows')) ∧ h.n ≤ h'.n ∧ ∀ j,j < h.n→blkOf v ≠ some j→h'.get j = h.get j:=by
 have X:=S.own _ (List.mem_of_getElem? hi)
 simp only at X
 by_cases hne : rows' = []
 ·subst hne
  refine ⟨v,h,?_,S.put i hi (Nat.le_refl _) (fun _ _ _=>rfl) (by simpa using X) fun b q _=>q,Nat.le_refl _,fun _ _ _=>rfl⟩
  have hX : OwnB P h.n h v n rows ∨ True:=.inr trivial
  obtain ⟨u,he',hu⟩:=T.other
  obtain ⟨z,hz,hzp,hzs⟩:=T.zero
  obtain ⟨m,rfl⟩ : ∃ m,n = m + 1:=⟨n - 1,by have:=T.pos; omega⟩
  have hA:=X.slV.cellsOf (by omega)
  have hB:=B.cells (by omega)
  rcases X with ⟨rfl,rfl⟩ | ⟨b,hb,hn,X⟩
  ·unfold pAppend
   rw [T.elem,he']
   simp only [hu,Bool.false_eq_true,if_false,T.size,T.byt,B.len,hz,hB]
   rfl
  ·have:=X.form
   subst this
   unfold pAppend
   rw [T.elem,he']
   simp only [hu,Bool.false_eq_true,if_false,T.size,T.byt,B.len,hz,hA,hB]
   rw [if_pos (by simp)]
   simp
 ·have hpos : 0 < rows'.length:=List.length_pos_iff.2 hne
  rcases X with ⟨rfl,rfl⟩ | ⟨b,hb,hn,X⟩
  ·have A' : SlV P h (.slice none ([] : List (List Value)).length 0) n []:=.inl ⟨rfl,rfl⟩
   obtain ⟨h',h1,h2,hz,h3,h4⟩:=append_newG T A' B rfl rfl (by simpa using hpos) hbig hone
   have h2 : Lie P h' h.n 0 n true rows':=h2
   have K : ∀ j,j < h.n→h'.get j = h.get j:=fun j hj=>h4 j hj fun a' ha=>by cases ha
   refine ⟨_,h',h1,S.put i hi (by omega) (fun j hj _=>K j hj) (.inr ⟨h.n,S.sta.size,S.sta.fresh (Nat.le_refl _),⟨by simp,h2,hz⟩⟩) fun c q hc=>?_,by omega,fun j hj _=>K j hj⟩
   simp only [blkOf,Option.some.injEq] at q
   omega
  ·have A':=X.slV
   have hf:=X.form
   subst hf
   obtain ⟨h',h1,h2,hz,h3,h4⟩:=append_newG T A' B X.sz rfl (by omega) hbig hone
   have K : ∀ j,j < h.n→blkOf (.slice (some ⟨b,0,none⟩) rows.length rows.length) ≠ some j→h'.get j = h.get j:=fun j hj q=>h4 j hj fun a' ha=>by
    cases ha
    rintro rfl
    exact q rfl
   refine ⟨_,h',h1,S.put i hi (by omega) K (.inr ⟨h.n,S.sta.size,S.sta.fresh (Nat.le_refl _),⟨by simp,h2,hz⟩⟩) fun c q hc=>?_,by omega,K⟩
   simp only [blkOf,Option.some.injEq] at q
   omega
/-- A text's bytes. -/
def bytesN (s : ByteArray) : List Nat:=s.data.toList.map UInt8.toNat
theorem bytesN_len (s : ByteArray) : (bytesN s).length = s.size:=by
 unfold bytesN
 rw [List.length_map,Array.length_toList]
 rfl
theorem bytesN_lt (s : ByteArray) : ∀ x ∈ bytesN s,x < 256:=fun x hx=>by
 obtain ⟨c,_,rfl⟩:=List.mem_map.1 hx
 exact UInt8.toNat_lt c
theorem extract_all (s : ByteArray) : s.extract 0 s.size = s:=by
 first
  | exact ByteArray.extract_zero_size
  | (apply ByteArray.ext; simp [ByteArray.extract])
theorem src_string (h : AH) (s : ByteArray) : Src P h (.string s) 1 ((bytesN s).map fun x : Nat=>[Value.int .u8 (x : Int)]):=by
 refine ⟨?_,fun _=>?_,fun r hr=>?_⟩
 ·rw [List.length_map,bytesN_len]; rfl
 ·rw [List.length_map,bytesN_len]
  unfold cellsOf
  simp only [Nat.le_refl,if_true]
  rw [extract_all]
  have : ((s.data.map fun b=>Value.int .u8 b.toNat).toList) = (((bytesN s).map fun x : Nat=>[Value.int .u8 (x : Int)]).flatten):=by
   unfold bytesN
   rw [Array.toList_map]
   generalize s.data.toList = l
   induction l with
   | nil=>rfl
   | cons a l ih=>rw [List.map_cons,List.map_cons,List.map_cons,List.flatten_cons,ih]; rfl
  rw [this]
 ·obtain ⟨x,_,rfl⟩:=List.mem_map.1 hr
  rfl
/-- 'append(l, s...)', s a text. -/
theorem Tl.appendS {v : Value} {s : ByteArray} {rows : List (List Value)} {ts : Array TypeId} {e bytes : Nat} {K : Value × AH→Option β} (S : Stt P n0 h0 h L O) (i : Nat) (hi : O[i]? = some (v,1,rows)) (T : AppG P ts e 1 bytes)
  (hbig : (rows.length + s.size + 1024) * (bytes + 1) ≤ 2 ^ 46) (hk : ∀ v' h',Stt P n0 h0 h' L (O.set i (v',1,rows ++ (bytesN s).map fun x : Nat=>[Value.int .u8 (x : Int)]))→Tl (K (v',h')) Q) : Tl (Ev.bnd (pAppend P ts v (.string s) h) K) Q:=by
 obtain ⟨v',h',e1,e2,_,_⟩:=S.appendG i hi T (src_string h s) (by rw [List.length_map,bytesN_len]; exact hbig) (flat_one (fun x : Nat=>Value.int .u8 (x : Int)) (fun _=>rfl) _)
 rw [e1]
 exact hk v' h' e2
end Go.Proofs.Ev
set_option linter.unusedVariables false
set_option linter.unusedSimpArgs false
namespace Go.Proofs.Ev
open Go Go.RowKit Go.ChangeShapes Go.WideShapes
variable {P : Program} {H : Type} {enc : TypeId × Value→H} {W : World} {base b0 : Nat} {sp : Nat→Bool} {held : Bool} {r : Reach} {t e : TypeId} {v : Value} {d : DataW H} {ps : List MemPlace}
end Go.Proofs.Ev
namespace Go.Proofs.Ev
open Go Go.RowKit
variable {P : Program} {n0 : Nat} {h0 h : AH} {L : List (Nat × AO)} {O O' : List OS}
/-- Some of one's own slices. -/
theorem Stt.keepO (S : Stt P n0 h0 h L O) (hs : O'.Sublist O) : Stt P n0 h0 h L O':=by
 have hp : O.Pairwise fun x y=>∀ b,blkOf x.1 = some b→¬ blkOf y.1 = some b:=by
  rw [List.pairwise_iff_getElem]
  intro i j hi hj hij b h1 h2
  have:=S.apart i j _ _ b (List.getElem?_eq_getElem hi) (List.getElem?_eq_getElem hj) h1 h2
  omega
 have hp2:=List.pairwise_iff_getElem.1 (hp.sublist hs)
 refine ⟨S.sta,fun o ho=>S.own o (hs.subset ho),fun i j x y b hi hj h1 h2=>?_⟩
 obtain ⟨l1,rfl⟩:=List.getElem?_eq_some_iff.1 hi
 obtain ⟨l2,rfl⟩:=List.getElem?_eq_some_iff.1 hj
 rcases Nat.lt_trichotomy i j with q | q | q
 ·exact (hp2 i j l1 l2 q b h1 h2).elim
 ·exact q
 ·exact (hp2 j i l2 l1 q b h2 h1).elim
section
/-- A slice's block has elements of its size, or is another one's. -/
def SzV (P : Program) (h : AH) (v : Value) (n : Nat) : Prop:=∀ a m c,v = .slice (some a) m c→szOk P (some a) n h = true
theorem SzV.grow {v : Value} {n : Nat} (S : SzV P h v n) {h' : AH} (g : Grow h h') : SzV P h' v n:=fun a m c e=>by
 have:=S a m c e
 unfold szOk at this ⊢
 simp only at this ⊢
 cases hg : h.get a.block with
 | none=>rw [hg] at this; cases this
 | some o=>rw [g.get hg]; rw [hg] at this; exact this
/-- Where a slice of one's own may be cut. -/
theorem Stt.szV (S : Stt P n0 h0 h L O) (i : Nat) {v : Value} {n : Nat} {rows : List (List Value)} (hi : O[i]? = some (v,n,rows)) : SzV P h v n:=by
 rcases S.own _ (List.mem_of_getElem? hi) with ⟨rfl,_⟩ | ⟨b,_,_,X⟩
 ·intro a m c e; cases e
 ·intro a m c e
  have X : SlX P h v n b rows:=X
  have hf:=X.form
  rw [e] at hf
  cases hf
  exact X.sz
end
end Go.Proofs.Ev
set_option linter.unusedVariables false
namespace Go.Proofs.Ev
open Go Go.RowKit
theorem qzV : type_of% @Tl.val:=@Tl.val
theorem qzT : type_of% @Tl.brT:=@Tl.brT
theorem qzF : type_of% @Tl.brF:=@Tl.brF
theorem qzG : type_of% @Tl.gd_on:=@Tl.gd_on
theorem qzH : type_of% @Tl.gd3_on:=@Tl.gd3_on
theorem qzB : type_of% @Tl.brC:=@Tl.brC
theorem qzC : type_of% @Tl.gdC:=@Tl.gdC
theorem qzD : type_of% @Tl.gd3C:=@Tl.gd3C
end Go.Proofs.Ev
