/- An evaluator of loaded Go functions over a small abstract memory, without a tape; what it says is shown of every run in Ev2 to Ev5.
How the abstract memory of Ev1 stands to a world of the model: values, objects, the whole; what each change of both leaves.
The whole relation between abstract memory and world; what a new object, a written cell, a turned object leave of it.
Loads and stores: what the abstract memory says of them holds of the world.
The operations that make no memory: what the evaluator says of them holds of the model.
The operations that make no memory, the rest of them; all together.
The operations that make no memory: all together.
The operations that make memory or write it: new objects, maps, texts' bytes.
append, copy, clear, make; a text's bytes in new memory.
append, copy, clear.
One operation; a region whose order is the text's.
A region that draws its order: whatever the order, it comes to what the text's order comes to. -/
import GoSem.Claim
import Derived.Calls
import Derived.WalkKit
import Derived.RangeFuncLeaves
import Derived.RangeFuncCalls
import Derived.OrdersIn
import Derived.Laws.BytesArg
import Derived.IntWalk
set_option linter.unusedVariables false
namespace Go.Proofs.Ev
open Go
/-! ### 1. The abstract memory -/
inductive AO where
 | cells (c : List Value) (elem : TypeId) (own : Bool)
 | map (es : List MapEntry) (clock : Nat)
 | iter (s : ByteArray) (pos : Nat)
 | loop (state : LoopState) (pending : Option Code) (fn : FuncId) (tmps : Array Value) (params : Array Tmp) (assign body : Code)
 | miter (m since : Nat) (seen : List Nat) (stepped : Nat)
 | dead
structure AH where
 n : Nat
 l : List AO
def AH.get (h : AH) (i : Nat) : Option AO:=if i < h.n then h.l[h.n - 1 - i]? else none
def AH.alloc (h : AH) (o : AO) : AH:=⟨h.n + 1,o :: h.l⟩
def AH.set (h : AH) (i : Nat) (o : AO) : AH:=if i < h.n then ⟨h.n,h.l.set (h.n - 1 - i) o⟩ else h
theorem AH.get_set_other (h : AH) {i j : Nat} (o : AO) (hne : i ≠ j) : (h.set i o).get j = h.get j:=by
 unfold AH.set
 split
 ·unfold AH.get
  dsimp only
  split
  ·rw [List.getElem?_set_ne (by omega)]
  ·rfl
 ·rfl
theorem AH.get_lt {h : AH} {i : Nat} {o : AO} (hi : h.get i = some o) : i < h.n:=by
 unfold AH.get at hi; split at hi <;> simp_all
theorem AH.get_set_same (h : AH) {i : Nat} (o o' : AO) (hi : h.get i = some o') : (h.set i o).get i = some o:=by
 have hlt:=AH.get_lt hi
 unfold AH.set
 rw [if_pos hlt]
 unfold AH.get at *
 rw [if_pos hlt] at hi
 dsimp only
 rw [if_pos hlt]
 have : h.n - 1 - i < h.l.length:=(List.getElem?_eq_some_iff.1 hi).1
 simp [this]
@[simp] theorem AH.n_alloc (h : AH) (o : AO) : (h.alloc o).n = h.n + 1:=rfl
@[simp] theorem AH.n_set (h : AH) (i : Nat) (o : AO) : (h.set i o).n = h.n:=by unfold AH.set; split <;> rfl
theorem AH.get_alloc_new (h : AH) (o : AO) : (h.alloc o).get h.n = some o:=by
 unfold AH.alloc AH.get; simp
theorem AH.get_alloc_old (h : AH) (o : AO) {i : Nat} (hi : i < h.n) : (h.alloc o).get i = h.get i:=by
 unfold AH.alloc AH.get
 dsimp only
 rw [if_pos (by omega),if_pos hi]
 have : h.n + 1 - 1 - i = (h.n - 1 - i) + 1:=by omega
 rw [this]; rfl
/-- One cell. -/
def AH.cell (h : AH) (b o : Nat) : Option Value:=match h.get b with
 | some (.cells c _ _)=>c[o]?
 | _=>none
/-- Cells in a row. -/
def AH.row (h : AH) (b o n : Nat) : Option (List Value):=match h.get b with
 | some (.cells c _ _)=>if o + n ≤ c.length then some ((c.drop o).take n) else none
 | _=>none
def splice (c : List Value) (o : Nat) (vs : List Value) : List Value:=c.take o ++ vs ++ c.drop (o + vs.length)
/-- Cells in a row, written: a block of one's own. -/
def AH.put (h : AH) (b o : Nat) (vs : List Value) : Option AH:=match h.get b with
 | some (.cells c e true)=>if o + vs.length ≤ c.length then some (h.set b (.cells (splice c o vs) e true)) else none
 | _=>none
/-! ### 2. Values -/
def unk : Value:=.tuple #[]
def skipped : Value:=.tuple #[.tuple #[]]
def kn : Value→Bool
 | .tuple vs=>match vs.toList with
  | [] | [.tuple _]=>false
  | _=>true
 | _=>true
def plain0 : Value→Bool
 | .bool _ | .int _ _ | .string _ | .float _ _ | .pointer none | .slice none _ _ | .map none | .nilFunc | .nilIface=>true
 | _=>false
def plain : Value→Bool
 | .agg cs=>cs.toList.all plain0
 | v=>plain0 v
def oneCell : Value→Bool
 | .agg _ | .tuple _=>false
 | _=>true
def same0 : Value→Value→Bool
 | .bool a,.bool b=>a == b
 | .int k a,.int j b=>k == j && a == b
 | .string a,.string b=>a == b
 | .pointer a,.pointer b=>a == b
 | .slice a n c,.slice b m d=>a == b && n == m && c == d
 | .map a,.map b=>a == b
 | .nilFunc,.nilFunc=>true
 | .nilIface,.nilIface=>true
 | _,_=>false
def sameList : List Value→List Value→Bool
 | [],[]=>true
 | x :: xs,y :: ys=>same0 x y && sameList xs ys
 | _,_=>false
def sameV : Value→Value→Bool
 | .agg a,.agg b=>sameList a.toList b.toList
 | .iface t x,.iface u y=>t == u && same0 x y
 | .tuple a,.tuple b=>a.size == 2 && sameList a.toList b.toList
 | .func f a b,.func g c d=>f == g && sameList a.toList c.toList && sameList b.toList d.toList
 | x,y=>same0 x y
/-! ### 3. What asks the program alone -/
def prun (P : Program) {α : Type} : Sem α→Option α
 | .pure a=>some a
 | .program k=>prun P (k P)
 | _=>none
def szT (P : Program) (t : TypeId) : Option Nat:=(P.info? t).map (·.size)
def zeroT (P : Program) (t : TypeId) : Option Value:=(P.info? t).bind (·.zero)
def bytesT (P : Program) (t : TypeId) : Option Nat:=(P.info? t).map (·.bytes)
def isAggT (P : Program) (t : TypeId) : Option Bool:=match P.underlying t with
 | some (.struct _) | some (.array _ _)=>some true
 | some _=>some false
 | none=>none
def elemT (P : Program) (t : TypeId) : Option TypeId:=match P.underlying t with
 | some (.slice e)=>some e
 | _=>none
def mapT (P : Program) (t : TypeId) : Option (TypeId × TypeId):=match P.underlying t with
 | some (.map k e)=>some (k,e)
 | _=>none
/-! ### 4. The operations -/
def pLoad (P : Program) (t : TypeId) (v : Value) (h : AH) : Option Value :=
 match v with
 | .pointer (some a)=>match isAggT P t,szT P t with
  | some true,some n=>(h.row a.block a.off n).map fun cs=>.agg cs.toArray
  | some false,some _=>h.cell a.block a.off
  | _,_=>none
 | _=>none
def pStore (P : Program) (t : TypeId) (v x : Value) (h : AH) : Option AH :=
 match v with
 | .pointer (some a)=>if x.cells.toList.all oneCell && szT P t == some x.cells.size then h.put a.block a.off x.cells.toList else none
 | _=>none
def newCells (h : AH) (cs : List Value) (e : TypeId) : Value × AH:=(.pointer (some ⟨h.n,0,none⟩),h.alloc (.cells cs e true))
def pAlloc (P : Program) (t : TypeId) (h : AH) : Option (Value × AH):=match zeroT P t with
 | some z=>if plain z then some (newCells h z.cells.toList t) else none
 | none=>none
def pBox (P : Program) (t : TypeId) (v : Value) (h : AH) : Option (Value × AH):=if kn v && (szT P t).isSome then some (newCells h v.cells.toList t) else none
def pBuild (P : Program) (t : TypeId) (parts : Array (Nat × Value)) : Option Value :=
 match zeroT P t with
 | some z=>if parts.toList.all (fun x=>kn x.2) && plain z then prun P (Instr.build t parts) else none
 | none=>none
def pBuildSlice (P : Program) (t : TypeId) (len : Nat) (parts : Array (Nat × Value)) (h : AH) : Option (Value × AH) :=
 match elemT P t with
 | none=>none
 | some e=>match szT P e,(if len * (szT P e).getD 0 = 0 then some #[] else (zeroT P e).map (·.cells)) with
  | some size,some zero =>
   if len * size > 2 ^ 24 || !parts.toList.all (fun x=>kn x.2) || !(zero.toList.all plain0) then none
   else match Instr.fill (fun i=>some (i * size,size)) ((Array.range (len * size)).map (zero[· % zero.size]!)) parts.toList with
    | some cells=>some (.slice (some ⟨h.n,0,none⟩) len len,h.alloc (.cells cells.toList e true))
    | none=>none
  | _,_=>none
def chk : Option Value→Option Value
 | some v=>if plain v then some v else none
 | none=>none
/-- Held against nil: not equal. -/
def nilCmp (P : Program) (t : TypeId) (x y : Value) : Bool :=
 match P.underlying t,x,y with
 | some (.pointer _),.pointer (some _),.pointer none | some (.pointer _),.pointer none,.pointer (some _)=>true
 | some (.slice _),.slice (some _) _ _,.slice none _ _ | some (.slice _),.slice none _ _,.slice (some _) _ _=>true
 | some (.map ..),.map (some _),.map none | some (.map ..),.map none,.map (some _)=>true
 | some (.func ..),.func ..,.nilFunc | some (.func ..),.nilFunc,.func ..=>true
 | some (.interface _),.iface ..,.nilIface | some (.interface _),.nilIface,.iface ..=>true
 | _,_,_=>false
def pBin (P : Program) (op : BinOp) (t : TypeId) (ox oy : Operand) (x y : Value) : Option Value :=
 if plain x && plain y then chk (prun P (do eqGuard op t ox oy x y; binOp op t x y))
 else match op with
  | .eql=>if nilCmp P t x y then some (.bool false) else none
  | .neq=>if nilCmp P t x y then some (.bool true) else none
  | _=>none
def pUn (P : Program) (op : UnOp) (x : Value) : Option Value:=if plain x then chk (prun P (Op.unary op x)) else none
def bytesOf : List Value→Option (List UInt8)
 | []=>some []
 | .int .u8 n :: r=>(bytesOf r).map (UInt8.ofNat n.toNat :: ·)
 | _=>none
/-- Conversions that make no memory. -/
def pConv (P : Program) (src dst : TypeId) (x : Value) (h : AH) : Option Value :=
 if plain x then (match x,P.underlying dst with
  | .string _,some (.slice _)=>none
  | .slice none _ _,some .string=>match (elemT P src).bind P.underlying with
   | some (.int .u8)=>some (.string .empty)
   | _=>none
  | _,_=>chk (prun P (convert src dst x)))
 else match x,elemT P src,P.underlying dst with
  | .slice (some a) n _,some e,some .string =>
   match P.underlying e with
   | some (.int .u8)=>match (if n = 0 then some [] else h.row a.block a.off n) with
    | some cs=>(bytesOf cs).map fun bs=>.string ⟨bs.toArray⟩
    | none=>none
   | _=>none
  | _,_,_=>none
/-- A text's bytes in new memory. -/
def pBytes (P : Program) (src dst : TypeId) (x : Value) (h : AH) : Option (Value × AH) :=
 match x,elemT P dst with
 | .string s,some e =>
  match P.underlying src,P.underlying e,szT P e with
  | some .string,some (.int .u8),some 1 =>
   some (.slice (some ⟨h.n,0,none⟩) s.size s.size,h.alloc (.cells (s.data.toList.map fun b=>.int .u8 b.toNat) e true))
  | _,_,_=>none
 | .slice (some a) n c,some e=>match P.underlying e,h.get a.block with
  | some (.int .u8),some (.cells cs e' true)=>if src = dst ∧ n ≠ 0 then some (.slice (some a) n c,h.set a.block (.cells cs e' true)) else none
  | _,_=>none
 | _,_=>none
def pMakeIface (P : Program) (t : TypeId) (x : Value) : Option Value:=if kn x then prun P (Instr.makeInterface t x) else none
def pMakeFunc (fn : Fn) (first captured : Array Value) : Option Value :=
 match fn with
 | .func _ | .methodOf _ _ | .method _=>if first.toList.all kn && captured.toList.all kn then some (.func fn first captured) else none
 | _=>none
def pMakeMap (P : Program) (t : TypeId) (r : Option Value) (h : AH) : Option (Value × AH) :=
 match mapT P t,r with
 | some _,none | some _,some (.int _ _)=>some (.map (some h.n),h.alloc (.map [] 0))
 | _,_=>none
def pMakeSlice (P : Program) (t : TypeId) (l c : Value) (h : AH) : Option (Value × AH) :=
 match elemT P t,l,c with
 | some e,.int _ l,.int _ c =>
  match szT P e,bytesT P e,zeroT P e with
  | some size,some bytes,some z =>
   if 0 ≤ l ∧ l ≤ c ∧ c ≤ 9223372036854775807 ∧ (bytes : Int) * c ≤ 2 ^ 47 ∧ z.cells.size = size ∧ z.cells.toList.all plain0 then
    some (.slice (some ⟨h.n,0,none⟩) l.toNat c.toNat,h.alloc (.cells ((List.replicate c.toNat z.cells.toList).flatten) e true))
   else none
  | _,_,_=>none
 | _,_,_=>none
def intOr (d : Int) : Option Value→Option Int
 | none=>some d
 | some (.int _ n)=>some n
 | _=>none
/-- A block's elements are of that size. -/
def szOk (P : Program) (a : Option Addr) (size : Nat) (h : AH) : Bool:=match a with
 | none=>true
 | some a=>match h.get a.block with
  | some (.cells _ e own)=>!own || szT P e == some size
  | _=>false
def pSlice (P : Program) (t : TypeId) (x : Value) (lo hi mx : Option Value) (h : AH) : Option Value :=
 match x with
 | .string s=>match P.underlying t,intOr 0 lo,intOr s.size hi,mx with
  | some .string,some l,some u,none=>if 0 ≤ l ∧ l ≤ u ∧ u ≤ s.size then some (.string (s.extract l.toNat u.toNat)) else none
  | _,_,_,_=>none
 | .slice a n c=>match (elemT P t).bind (szT P),intOr 0 lo,intOr n hi,intOr c mx with
  | some size,some l,some u,some m =>
   if 0 ≤ l ∧ l ≤ u ∧ u ≤ m ∧ m ≤ c ∧ (mx.isNone ∨ hi.isSome) ∧ (l = 0 ∨ mx.isSome ∨ szOk P a size h) then
    some (.slice (a.map fun a=>⟨a.block,a.off + l.toNat * size,none⟩) (u - l).toNat (m - l).toNat)
   else none
  | _,_,_,_=>none
 | _=>none
def pFieldAddr (P : Program) (s : TypeId) (x : Value) (f : Nat) : Option Value :=
 match P.underlying s,x with
 | some (.struct fs),.pointer (some a)=>match fs[f]? with
  | some fd=>match szT P fd.type with
   | some (_ + 1)=>some (.pointer (some ⟨a.block,a.off + fd.offset,none⟩))
   | _=>none
  | none=>none
 | _,_=>none
def pField (P : Program) (t : TypeId) (x : Value) (f : Nat) : Option Value:=match x with
 | .agg cs=>prun P (Instr.field t (.agg cs) f)
 | _=>none
def pIndexAddr (P : Program) (t : TypeId) (x i : Value) : Option Value :=
 match i,x,P.underlying t with
 | .int _ i,.slice (some a) n _,some (.slice e)=>match szT P e with
  | some size=>if 0 ≤ i ∧ i < n then some (.pointer (some ⟨a.block,a.off + i.toNat * size,none⟩)) else none
  | none=>none
 | .int _ i,.pointer (some a),some (.array n e)=>match szT P e with
  | some size=>if 0 ≤ i ∧ i < n then some (.pointer (some ⟨a.block,a.off + i.toNat * size,none⟩)) else none
  | none=>none
 | _,_,_=>none
def pIndex (P : Program) (t : TypeId) (x i : Value) : Option Value :=
 match i,x,P.underlying t with
 | .int _ i,.string s,some .string=>if 0 ≤ i then (s[i.toNat]?).map fun b=>.int .u8 b.toNat else none
 | .int k i,.agg cs,some (.array n e)=>if 0 ≤ i ∧ i < n then (match szT P e with | some sz=>prun P (part e cs (i.toNat * sz)) | none=>none) else none
 | _,_,_=>none
def pExtract (x : Value) (i : Nat) : Option Value:=match x with
 | .tuple vs=>if kn (.tuple vs) then vs[i]? else none
 | _=>none
def pAssert (P : Program) (x : Value) (xT t : TypeId) (ok : Bool) : Option Value:=match x with
 | .iface u v=>match P.underlying t with
  | some (.interface _)=>none
  | some _=>if u = t then some (if ok then .tuple #[v,.bool true] else v)
   else if ok then (match zeroT P t with | some z=>if plain z then some (.tuple #[z,.bool false]) else none | none=>none) else none
  | none=>none
 | _=>none
/-! #### Maps: keys that are told apart by sight -/
def findE (kd : TypeDesc) (k : Value) : List MapEntry→Nat→Option (Option (Nat × Value))
 | [],_=>some none
 | e :: es,i=>match Instr.sameNow kd k e.key with
  | some true=>some (some (i,e.val))
  | some false=>findE kd k es (i + 1)
  | none=>none
def keyOk : TypeDesc→Value→Bool
 | .int _,.int _ _=>true
 | .string,.string _=>true
 | .bool,.bool _=>true
 | _,_=>false
def pLookup (P : Program) (t : TypeId) (x k : Value) (ok : Bool) (h : AH) : Option Value :=
 match mapT P t with
 | none=>none
 | some (kt,et)=>match P.underlying kt,(match x with
   | .map none=>some []
   | .map (some r)=>match h.get r with
    | some (.map es _)=>some es
    | _=>none
   | _=>none) with
  | some kd,some es=>if keyOk kd k then
    match findE kd k es 0,zeroT P et with
    | some (some (_,v)),_=>some (if ok then .tuple #[v,.bool true] else v)
    | some none,some z=>if plain z then some (if ok then .tuple #[z,.bool false] else z) else none
    | _,_=>none
   else none
  | _,_=>none
def pUpdate (P : Program) (t : TypeId) (m k x : Value) (h : AH) : Option AH :=
 match mapT P t,m with
 | some (kt,_),.map (some r)=>match P.underlying kt,h.get r with
  | some kd,some (.map es clock)=>if keyOk kd k && kn x then
    match findE kd k es 0 with
    | some (some (i,_))=>some (h.set r (.map (es.modify i fun e=>{ e with key:=k,val:=x }) clock))
    | some none=>some (h.set r (.map (es ++ [{ key:=k,val:=x,born:=clock }]) (clock + 1)))
    | none=>none
   else none
  | _,_=>none
 | _,_=>none
/-! #### Builtins -/
def pLen (P : Program) (ts : Array TypeId) (x : Value) (h : AH) : Option Value :=
 match ts[0]?.bind P.underlying,x with
 | some .string,.string s=>some (goInt s.size)
 | some (.slice _),.slice _ n _=>some (goInt n)
 | some (.array n _),.agg _=>some (goInt n)
 | some (.map _ _),.map none=>some (goInt 0)
 | some (.map _ _),.map (some r)=>match h.get r with
  | some (.map es _)=>some (goInt es.length)
  | _=>none
 | _,_=>none
/-- How much room a slice has: of a slice that is nil alone (what room an append leaves is the runtime's own choice). -/
def pCap (P : Program) (ts : Array TypeId) (x : Value) : Option Value :=
 match ts[0]?.bind P.underlying,x with
 | some (.slice _),.slice none _ c=>some (goInt c)
 | _,_=>none
def pMinMax (P : Program) (mx : Bool) (args : Array Value) : Option Value :=
 match args.toList with
 | .int k x :: rest=>if rest.all (fun v=>match v with | .int _ _=>true | _=>false) then
   chk (prun P (if mx then Builtin.max_ #[] 0 args else Builtin.min_ #[] 0 args)) else none
 | _=>none
def cellsOf (P : Program) (size n : Nat) (x : Value) (h : AH) : Option (List Value) :=
 match x with
 | .slice none _ _=>if n = 0 then some [] else none
 | .slice (some a) m _=>if n * size = 0 then some [] else if n ≤ m then h.row a.block a.off (n * size) else none
 | .string s=>if n ≤ s.size then some (((s.extract 0 n).data.map fun b=>Value.int .u8 b.toNat).toList) else none
 | _=>none
def lenE : Value→Option Nat
 | .slice _ n _=>some n
 | .string s=>some s.size
 | _=>none
def kill (h : AH) (b o : Nat) : AH:=match h.get b with
 | some (.cells c _ true)=>if o = c.length then h.set b .dead else h
 | _=>h
def isIntT : TypeDesc→Bool
 | .int _=>true
 | _=>false
def offOk : Option Addr→Bool
 | none=>true
 | some a=>a.off == 0
/-- 'append(nil, make(l, m)...)'. -/
def pGrowN (P : Program) (e : TypeId) (m : Int) (h : AH) : Option (Value × AH) :=
 match szT P e,bytesT P e,zeroT P e with
 | some (size + 1),some bytes,some z =>
  if m = 0 then some (.slice none 0 0,h)
  else if 0 ≤ m ∧ (m.toNat + 1024) * (bytes + 1) ≤ 2 ^ 46 ∧ z.cells.toList.all plain0 = true ∧ z.cells.size = size + 1 then
   some (.slice (some ⟨h.n,0,none⟩) m.toNat m.toNat,h.alloc (.cells ((List.replicate m.toNat z.cells.toList).flatten) e true)) else none
 | _,_,_=>none
/-- append: always new memory; the block whose end the slice reaches is given up. -/
def pAppend (P : Program) (ts : Array TypeId) (s x : Value) (h : AH) : Option (Value × AH) :=
 match ts[0]?.bind (elemT P),ts[1]?.bind P.underlying,s with
 | some e,some u,.slice base n c=>if isIntT u then (match base,n,c,x with | none,0,0,.int _ m=>pGrowN P e m h | _,_,_,_=>none) else
  match szT P e,bytesT P e,lenE x,zeroT P e with
  | some (size + 1),some bytes,some m,some z=>match cellsOf P (size + 1) m x h,cellsOf P (size + 1) n s h with
   | some new,some old =>
    if n + m ≤ c then (match base with
     | none=>some (.slice none (n + m) c,h)
     | some a=>if new.isEmpty then some (.slice (some a) (n + m) c,h) else if new.all oneCell then (h.put a.block (a.off + n * (size + 1)) new).map fun h'=>(.slice (some a) (n + m) c,h') else none)
    else if (n + m + 1024) * (bytes + 1) ≤ 2 ^ 46 && z.cells.toList.all plain0 && z.cells.size == size + 1 && (szOk P base (size + 1) h && offOk base) && new.all oneCell && new.length == m * (size + 1) then
     some (.slice (some ⟨h.n,0,none⟩) (n + m) (n + m),
      (match base with | none=>h | some a=>kill h a.block (a.off + c * (size + 1))).alloc (.cells (old ++ new) e true))
    else none
   | _,_=>none
  | _,_,_,_=>none
 | _,_,_=>none
def pCopy (P : Program) (ts : Array TypeId) (d x : Value) (h : AH) : Option (Value × AH) :=
 match ts[0]?.bind (elemT P),d,lenE x with
 | some e,.slice base n _,some m=>match szT P e with
  | some size=>match cellsOf P size (min m n) x h with
   | some cs=>match base with
    | none=>some (goInt (min m n : Nat),h)
    | some a=>if cs.isEmpty then some (goInt (min m n : Nat),h) else if cs.all oneCell then (h.put a.block a.off cs).map fun h'=>(goInt (min m n : Nat),h') else none
   | none=>none
  | none=>none
 | _,_,_=>none
def pClear (P : Program) (ts : Array TypeId) (x : Value) (h : AH) : Option AH :=
 match ts[0]?.bind (elemT P),x with
 | some _,.slice none _ _=>some h
 | some e,.slice (some a) n _=>if n = 0 then some h else match zeroT P e with
  | some z=>if z.cells.toList.all plain0 then h.put a.block a.off ((List.replicate n z.cells.toList).flatten) else none
  | none=>none
 | _,_=>none
/-! #### A text's runes -/
def pRange (P : Program) (t : TypeId) (x : Value) (h : AH) : Option (Value × AH) :=
 match P.underlying t,x with
 | some .string,.string s=>some (.pointer (some ⟨h.n,0,none⟩),h.alloc (.iter s 0))
 | some (.map _ _),.map (some m)=>match h.get m with
  | some (.map _ clock)=>some (.pointer (some ⟨h.n,0,none⟩),h.alloc (.miter m clock [] clock))
  | _=>none
 | _,_=>none
/-- A map's next entry, where no more than one is left. -/
def pStep (r m since : Nat) (seen : List Nat) (last : Nat) (es : List MapEntry) (clock : Nat) (h : AH) : Option (Value × AH) :=
 if !seen.isEmpty && !es.isEmpty && es.all (fun e=>decide (e.born ≥ last)) then none else
 match es.filter (fun e=>!seen.contains e.born) with
 | []=>some (.tuple #[.bool false],h)
 | [e]=>if e.born < since then some (.tuple #[.bool true,e.key,e.val],h.set r (.miter m since (seen ++ [e.born]) clock)) else none
 | _=>none
def pEntry (x : Value) (h : AH) : Option (Value × AH) :=
 match x with
 | .pointer (some ⟨r,0,none⟩)=>match h.get r with
  | some (.miter m since seen stepped)=>match h.get m,seen.getLast? with
   | some (.map es clock),some stamp=>if clock = stepped then (es.find? fun e=>e.born == stamp).map fun e=>(.tuple #[e.key,e.val],h) else none
   | _,_=>none
  | _=>none
 | _=>none
def pNext (x : Value) (isString : Bool) (h : AH) : Option (Value × AH) :=
 match x,isString with
 | .pointer (some ⟨r,0,none⟩),false=>match h.get r with
  | some (.miter m since seen last)=>match h.get m with
   | some (.map es clock)=>pStep r m since seen last es clock h
   | _=>none
  | _=>none
 | .pointer (some ⟨r,0,none⟩),true=>match h.get r with
  | some (.iter s pos)=>if pos < s.size then
    some (.tuple #[.bool true,goInt pos,.int .i32 (Utf8.decode s pos).1],h.set r (.iter s (pos + (Utf8.decode s pos).2)))
   else some (.tuple #[.bool false],h)
  | _=>none
 | _,_=>none
/-! ### 5. Methods -/
def eMeth (P : Program) (t : TypeId) (v : Value) (name : String) : Option (FuncId × Value) :=
 match P.info? t with
 | none=>none
 | some i=>match i.methods.find? (·.name == name) with
  | none=>none
  | some m=>if m.path.size = 0 then match m.func,P.underlying t with
    | some (f,true),some (.pointer _)=>some (f,v)
    | some (_,true),_=>none
    | some (_,false),some (.pointer _)=>none
    | some (f,false),some _=>some (f,v)
    | _,_=>none
   else none
def pNilCheck (P : Program) : Value→Option Value
 | .pointer (some a)=>some (.pointer (some a))
 | .iface t v=>some (.iface t v)
 | .func (.func f) a b=>some (.func (.func f) a b)
 | .func (.yield l) a b=>some (.func (.yield l) a b)
 | .func (.methodOf t m) a b=>some (.func (.methodOf t m) a b)
 | .func (.method m) a b=>match (a[0]? : Option Value) with
  | some (.iface t w)=>(eMeth P t w m).map fun _=>.func (.method m) a b
  | _=>none
 | _=>none
/-- Where a call of a function value leads: a function, or a round of a range over a function. -/
def eTarget (P : Program) (fn : Fn) (captured args : Array Value) : Option (Bool × Nat × Array Value) :=
 match fn with
 | .func f=>some (true,f,args ++ captured)
 | .yield l=>some (false,l,args)
 | .method name=>match (args[0]? : Option Value) with
  | some (.iface t v)=>(eMeth P t v name).map fun (f,r)=>(true,f,#[r] ++ args.extract 1 args.size)
  | _=>none
 | .methodOf t name=>match (args[0]? : Option Value),P.underlying t with
  | some (.iface u v),some (.interface _)=>(eMeth P u v name).map fun (f,r)=>(true,f,#[r] ++ args.extract 1 args.size)
  | _,some (.interface _)=>none
  | some x,some _=>(eMeth P t x name).map fun (f,r)=>(true,f,#[r] ++ args.extract 1 args.size)
  | _,_=>none
 | .via ..=>none
/-! ### 6. One operation -/
def eLight (P : Program) (o : Oper) (ev : Operand→Value) (h : AH) : Option Value :=
 match o.op with
 | .move x | .assign x=>some (ev x)
 | .pick c a b=>match ev c with
  | .bool true=>some (ev a)
  | .bool false=>some (ev b)
  | _=>none
 | .load t a=>pLoad P t (ev a) h
 | .nilCheck x=>pNilCheck P (ev x)
 | .binOp op t x y _=>pBin P op t x y (ev x) (ev y)
 | .unOp op _ x=>pUn P op (ev x)
 | .convert s d x=>pConv P s d (ev x) h
 | .field t x f=>pField P t (ev x) f
 | .fieldAddr t x f=>pFieldAddr P t (ev x) f
 | .index t x i=>pIndex P t (ev x) (ev i)
 | .indexAddr t x i=>pIndexAddr P t (ev x) (ev i)
 | .slice t x lo hi mx=>pSlice P t (ev x) (lo.map ev) (hi.map ev) (mx.map ev) h
 | .extract x i=>pExtract (ev x) i
 | .makeInterface t x=>pMakeIface P t (ev x)
 | .makeFunc fn first captured=>pMakeFunc fn (first.map ev) (captured.map ev)
 | .build t parts=>pBuild P t (parts.map fun (i,x)=>(i,ev x))
 | .lookup t x i ok=>pLookup P t (ev x) (ev i) ok h
 | .typeAssert x xt t ok=>pAssert P (ev x) xt t ok
 | .call c=>match c.callee,c.args.toList with
  | .builtin .len,[x]=>pLen P c.argTypes (ev x) h
  | .builtin .cap,[x]=>pCap P c.argTypes (ev x)
  | .builtin .max,_=>pMinMax P true (c.args.map ev)
  | .builtin .min,_=>pMinMax P false (c.args.map ev)
  | _,_=>none
 | _=>none
abbrev Inv:=Fn→Array Value→Array Value→AH→Option (Value × AH)
def eHeavy (P : Program) (inv : Inv) (o : Oper) (ev : Operand→Value) (h : AH) : Option (Value × AH) :=
 match o.op with
 | .alloc t=>pAlloc P t h
 | .box t x=>pBox P t (ev x) h
 | .buildSlice t n parts=>pBuildSlice P t n (parts.map fun (i,x)=>(i,ev x)) h
 | .store t a x=>(pStore P t (ev a) (ev x) h).map fun h'=>(unk,h')
 | .convert s d x=>pBytes P s d (ev x) h
 | .makeMap t r=>pMakeMap P t (r.map ev) h
 | .makeSlice t l c=>pMakeSlice P t (ev l) (ev c) h
 | .mapUpdate t m k x | .insert t m k x=>(pUpdate P t (ev m) (ev k) (ev x) h).map fun h'=>(unk,h')
 | .range t x=>pRange P t (ev x) h
 | .next x s=>pNext (ev x) s h
 | .entry x=>pEntry (ev x) h
 | .call c=>match c.callee with
  | .value f=>match ev f with
   | .func fn first captured=>inv fn captured (first ++ c.args.map ev) h
   | _=>none
  | .invoke r name=>inv (.method name) #[] (#[ev r] ++ c.args.map ev) h
  | .builtin .append=>match c.args.toList with
   | [s,x]=>pAppend P c.argTypes (ev s) (ev x) h
   | _=>none
  | .builtin .copy=>match c.args.toList with
   | [d,x]=>pCopy P c.argTypes (ev d) (ev x) h
   | _=>none
  | .builtin .clear=>match c.args.toList with
   | [x]=>(pClear P c.argTypes (ev x) h).map fun h'=>(unk,h')
   | _=>none
  | _=>none
 | _=>none
def isLight (P : Program) (o : Oper) : Bool :=
 match o.op with
 | .move _ | .assign _ | .pick .. | .load .. | .nilCheck _ | .binOp .. | .unOp .. | .field .. | .fieldAddr .. | .index .. | .indexAddr ..
 | .slice .. | .extract .. | .makeInterface .. | .makeFunc .. | .build .. | .lookup .. | .typeAssert ..=>true
 | .convert _ d _=>match P.underlying d with
  | some (.slice _)=>false
  | _=>true
 | .call c=>match c.callee with
  | .builtin .len | .builtin .cap | .builtin .max | .builtin .min=>true
  | _=>false
 | _=>false
def readsH (o : Oper) : Bool :=
 match o.op with
 | .load .. | .lookup .. | .convert .. | .slice ..=>true
 | .call _=>true
 | _=>false
def eOp (P : Program) (inv : Inv) (o : Oper) (ev : Operand→Value) (h : AH) : Option (Value × AH) :=
 if isLight P o then (eLight P o ev h).map fun v=>(v,h) else eHeavy P inv o ev h
/-! ### 6b. Forcing: each of these is 'k x'; in the kernel they bring x into its plainest form first -/
section
variable {β : Type}
def fcN (n : Nat) (k : Nat→β) : β:=match n with
 | 0=>k 0
 | m + 1=>k (Nat.succ m)
theorem fcN_eq (n : Nat) (k : Nat→β) : fcN n k = k n:=by cases n <;> rfl
def fcI (z : Int) (k : Int→β) : β:=match z with
 | .ofNat n=>fcN n fun n=>k (.ofNat n)
 | .negSucc n=>fcN n fun n=>k (.negSucc n)
theorem fcI_eq (z : Int) (k : Int→β) : fcI z k = k z:=by cases z <;> simp [fcI,fcN_eq]
def fcB (b : Bool) (k : Bool→β) : β:=match b with
 | true=>k true
 | false=>k false
theorem fcB_eq (b : Bool) (k : Bool→β) : fcB b k = k b:=by cases b <;> rfl
def fcL {α : Type} (f : α→(α→β)→β) : List α→(List α→β)→β
 | [],k=>k []
 | x :: xs,k=>f x fun x=>fcL f xs fun xs=>k (x :: xs)
theorem fcL_eq {α : Type} {f : α→(α→β)→β} (hf : ∀ x k,f x k = k x) (l : List α) (k : List α→β) : fcL f l k = k l:=by
 induction l generalizing k with
 | nil=>rfl
 | cons x xs ih=>simp [fcL,hf,ih]
def fcU (b : UInt8) (k : UInt8→β) : β:=fcN b.toNat fun n=>k (UInt8.ofNat n)
theorem fcU_eq (b : UInt8) (k : UInt8→β) : fcU b k = k b:=by simp [fcU,fcN_eq]
def fcS (s : ByteArray) (k : ByteArray→β) : β:=fcL fcU s.data.toList fun l=>k ⟨⟨l⟩⟩
theorem fcS_eq (s : ByteArray) (k : ByteArray→β) : fcS s k = k s:=by simp [fcS,fcL_eq fcU_eq]
def fcAd (a : Addr) (k : Addr→β) : β:=match a with
 | ⟨b,o,s⟩=>fcN b fun b=>fcN o fun o=>k ⟨b,o,s⟩
theorem fcAd_eq (a : Addr) (k : Addr→β) : fcAd a k = k a:=by simp [fcAd,fcN_eq]
def fcFn (f : Fn) (k : Fn→β) : β:=match f with
 | .yield l=>fcN l fun l=>k (.yield l)
 | f=>k f
theorem fcFn_eq (f : Fn) (k : Fn→β) : fcFn f k = k f:=by cases f <;> simp [fcFn,fcN_eq]
def fcA (f : Value→(Value→β)→β) (a : Array Value) (k : Array Value→β) : β:=fcL f a.toList fun l=>k ⟨l⟩
theorem fcA_eq {f : Value→(Value→β)→β} (hf : ∀ x k,f x k = k x) (a : Array Value) (k : Array Value→β) : fcA f a k = k a:=by simp [fcA,fcL_eq hf]
def fcV : Nat→Value→(Value→β)→β
 | 0,v,k=>k v
 | d + 1,v,k=>match v with
  | .bool b=>fcB b fun b=>k (.bool b)
  | .int t n=>fcI n fun n=>k (.int t n)
  | .string s=>fcS s fun s=>k (.string s)
  | .pointer (some a)=>fcAd a fun a=>k (.pointer (some a))
  | .slice none n c=>fcN n fun n=>fcN c fun c=>k (.slice none n c)
  | .slice (some a) n c=>fcAd a fun a=>fcN n fun n=>fcN c fun c=>k (.slice (some a) n c)
  | .map (some r)=>fcN r fun r=>k (.map (some r))
  | .func fn x y=>fcFn fn fun fn=>fcA (fcV d) x fun x=>fcA (fcV d) y fun y=>k (.func fn x y)
  | .iface t v=>fcV d v fun v=>k (.iface t v)
  | .agg a=>fcA (fcV d) a fun a=>k (.agg a)
  | .tuple a=>fcA (fcV d) a fun a=>k (.tuple a)
  | v=>k v
theorem fcV_eq (d : Nat) (v : Value) (k : Value→β) : fcV d v k = k v:=by
 induction d generalizing v k with
 | zero=>rfl
 | succ d ih =>
  have hA : ∀ (a : Array Value) (k : Array Value→β),fcA (fcV d) a k = k a:=fun a k=>fcA_eq ih a k
  unfold fcV
  split <;> simp [fcB_eq,fcI_eq,fcS_eq,fcAd_eq,fcN_eq,fcFn_eq,hA,ih]
def fcE (e : MapEntry) (k : MapEntry→β) : β:=match e with
 | ⟨x,y,b⟩=>fcV 8 x fun x=>fcV 8 y fun y=>fcN b fun b=>k ⟨x,y,b⟩
theorem fcE_eq (e : MapEntry) (k : MapEntry→β) : fcE e k = k e:=by simp [fcE,fcV_eq,fcN_eq]
def fcO (o : AO) (k : AO→β) : β:=match o with
 | .cells c e own=>fcL (fcV 8) c fun c=>fcB own fun own=>k (.cells c e own)
 | .map es clk=>fcL fcE es fun es=>fcN clk fun clk=>k (.map es clk)
 | .iter s p=>fcN p fun p=>k (.iter s p)
 | .miter m s l t=>fcN m fun m=>fcN s fun s=>fcL fcN l fun l=>fcN t fun t=>k (.miter m s l t)
 | .loop st pd f ts ps as bd=>fcA (fcV 8) ts fun ts=>k (.loop st pd f ts ps as bd)
 | .dead=>k .dead
theorem fcO_eq (o : AO) (k : AO→β) : fcO o k = k o:=by
 cases o <;> simp [fcO,fcL_eq (fcV_eq 8),fcL_eq fcE_eq,fcL_eq fcN_eq,fcA_eq (fcV_eq 8),fcN_eq,fcB_eq]
def fcPre : Nat→List AO→(List AO→β)→β
 | 0,l,k=>k l
 | _ + 1,[],k=>k []
 | d + 1,o :: l,k=>fcO o fun o=>fcPre d l fun l=>k (o :: l)
theorem fcPre_eq (d : Nat) (l : List AO) (k : List AO→β) : fcPre d l k = k l:=by
 induction d generalizing l k with
 | zero=>rfl
 | succ d ih=>cases l <;> simp [fcPre,fcO_eq,ih]
def fcH (d : Nat) (h : AH) (k : AH→β) : β:=match h with
 | ⟨n,l⟩=>fcN n fun n=>fcPre d l fun l=>k ⟨n,l⟩
theorem fcH_eq (d : Nat) (h : AH) (k : AH→β) : fcH d h k = k h:=by simp [fcH,fcN_eq,fcPre_eq]
/-- Temporaries, one of them put. -/
def fcPut : Nat→Value→List Value→(List Value→β)→β
 | _,_,[],k=>k []
 | 0,v,_ :: l,k=>k (v :: l)
 | d + 1,v,x :: l,k=>fcPut d v l fun l=>k (x :: l)
theorem fcPut_eq (d : Nat) (v : Value) (l : List Value) (k : List Value→β) : fcPut d v l k = k (l.set d v):=by
 induction l generalizing d k with
 | nil=>simp [fcPut]
 | cons x l ih=>cases d <;> simp [fcPut,ih]
end
def depthOf (h : AH) : Value→Nat
 | .pointer (some a)=>h.n - a.block
 | .slice (some a) _ _=>h.n - a.block
 | .map (some r)=>h.n - r
 | _=>0
/-- How far from the newest the objects lie that an operation may have turned. -/
def reach (o : Oper) (ev : Operand→Value) (h h2 : AH) : Nat :=
 match o.op with
 | .store _ a _=>depthOf h (ev a)
 | .mapUpdate _ m _ _ | .insert _ m _ _=>depthOf h (ev m)
 | .next x _=>depthOf h (ev x)
 | .call c=>match c.callee,c.args.toList with
  | .builtin _,s :: _=>depthOf h (ev s) + (h2.n - h.n)
  | _,_=>0
 | _=>h2.n - h.n
def evL (a : Act) : Operand→Value
 | .tmp t=>(a.tmps.toList[t]?).getD undef
 | .const v=>v
 | .global g=>.pointer (some ⟨g,0,none⟩)
 | .func f=>.func (.func f) #[] #[]
theorem evL_eq (a : Act) : evL a = a.eval:=by
 funext x
 cases x <;> simp [evL,Act.eval]
/-! ### 7. A region -/
def wantedE (ops : Array Oper) (o : Oper) (tmps : Array Value) : Option Bool :=
 match o.guard with
 | none=>some true
 | some (j,want)=>match ((ops.toList[j]?).bind (·.dst)).bind (tmps.toList[·]?) with
  | some (.bool b)=>some (b == want)
  | some (.tuple vs)=>match vs.toList with
   | [.tuple us]=>if us.size = 0 then some false else none
   | _=>none
  | _=>none
structure TR where
 i : Nat
 o : Oper
 a : Act
 h : AH
 v : Value
 h2 : AH
 did : Bool
def eStep (P : Program) (inv : Inv) (ops : Array Oper) (i : Nat) (a : Act) (h : AH) : Option TR :=
 match ops.toList[i]? with
 | none=>none
 | some o=>match wantedE ops o a.tmps with
  | none=>none
  | some false=>some ⟨i,o,a,h,skipped,h,false⟩
  | some true=>match eOp P inv o (evL a) h with
   | some (v,h2)=>fcV 8 v fun v=>fcH (if isLight P o then 0 else reach o (evL a) h h2) h2 fun h2=>some ⟨i,o,a,h,v,h2,true⟩
   | none=>none
/-- The temporaries behind an operation. -/
def putF {β : Type} (a : Act) (d : Option Tmp) (v : Value) (k : Act→β) : β:=match a,d with
 | ⟨t,ds⟩,some d=>fcPut d v t.toList fun l=>k ⟨⟨l⟩,ds⟩
 | a,none=>k a
theorem putF_eq {β : Type} (a : Act) (d : Option Tmp) (v : Value) (k : Act→β) : putF a d v k = k (a.put d v):=by
 cases d with
 | none=>rfl
 | some d =>
  simp only [putF,fcPut_eq,Act.put]
  congr 2
  exact Array.toList_inj.1 (by simp)
def eTrace (P : Program) (inv : Inv) (ops : Array Oper) : List Nat→Act→AH→Option (List TR × Act × AH)
 | [],a,h=>some ([],a,h)
 | i :: is,a,h=>match eStep P inv ops i a h with
  | none=>none
  | some t=>putF a t.o.dst t.v fun a=>match eTrace P inv ops is a t.h2 with
   | none=>none
   | some (ts,a',h')=>some (t :: ts,a',h')
def eOps (P : Program) (inv : Inv) (ops : Array Oper) : List Nat→Act→AH→Option (Act × AH)
 | [],a,h=>some (a,h)
 | i :: is,a,h=>match eStep P inv ops i a h with
  | none=>none
  | some t=>putF a t.o.dst t.v fun a=>eOps P inv ops is a t.h2
/-- Which operations stand ahead of one, as bits. -/
def maskOf (acc : Array Nat) (o : Oper) : Nat:=o.after.toList.foldl (fun s e=>if Region.binds .any e then s ||| 2 ^ e.on ||| acc.getD e.on 0 else s) 0
def masks (ops : Array Oper) : Array Nat:=ops.toList.foldl (fun acc o=>acc.push (maskOf acc o)) #[]
def ordered (m : Array Nat) (i j : Nat) : Bool:=i == j || (m.getD i 0).testBit j || (m.getD j 0).testBit i
def sameO : Option Value→Value→Bool
 | some x,y=>sameV x y
 | none,_=>false
/-- Heavy operations that are not ordered. -/
def loose (P : Program) (ops : Array Oper) : Bool :=
 let hs:=(List.range ops.size).filter fun i=>match ops.toList[i]? with
  | some x=>!isLight P x
  | none=>false
 match hs with
 | []=>false
 | [_]=>false
 | hs=>let m:=masks ops
  hs.any fun i=>hs.any fun j=>decide (i < j) && !ordered m i j
/-- Operations that make a new row of cells and look at nothing in memory. -/
def freshOp (o : Oper) : Bool:=match o.op with
 | .alloc _ | .box .. | .buildSlice .. | .makeSlice ..=>true
 | _=>false
/-- Such an operation that nothing but light operations stands ahead of. -/
def looseOld (P : Program) (ops : Array Oper) (m : Array Nat) (i : Nat) : Bool:=match ops.toList[i]? with
 | some o=>freshOp o && o.guard.isNone && (List.range ops.size).all fun k=>!(m.getD i 0).testBit k || (match ops.toList[k]? with
  | some x=>isLight P x && (!readsH x || loose P ops)
  | none=>true)
 | none=>false
/-- Of two heavy operations that are not ordered one is such. -/
def allOld (P : Program) (ops : Array Oper) : Bool :=
 let hs:=(List.range ops.size).filter fun i=>match ops.toList[i]? with
  | some x=>!isLight P x
  | none=>false
 let m:=masks ops
 hs.all fun i=>hs.all fun j=>!decide (i < j) || ordered m i j || looseOld P ops m i || looseOld P ops m j
/-- One that makes a new row, in whatever order. -/
def looseAt (P : Program) (ops : Array Oper) (m : Array Nat) (i : Nat) : Bool:=match ops.toList[i]? with
 | some o=>freshOp o && (looseOld P ops m i || (loose P ops && !allOld P ops))
 | none=>false
/-- Which readings are unordered against which heavy operations, or stand ahead of one that makes a new row in whatever order. -/
def needs (P : Program) (ops : Array Oper) : List (Nat × Nat) :=
 let m:=masks ops
 (List.range ops.size).flatMap fun i=>((List.range ops.size).filter fun j=>match ops.toList[i]?,ops.toList[j]? with
  | some x,some y=>isLight P x && readsH x && !isLight P y && (!ordered m i j || (loose P ops && looseAt P ops m j))
  | _,_=>false).map fun j=>(i,j)
def chkT (P : Program) (t u : TR) : Bool:=!t.did || !u.did || (sameO (eLight P t.o t.a.eval u.h) t.v && sameO (eLight P t.o t.a.eval u.h2) t.v)
/-- What is read is the same whenever it may be read. -/
def calm (P : Program) (ops : Array Oper) (ts : List TR) : Bool :=
 (needs P ops).all fun x=>match ts[x.1]?,ts[x.2]? with
  | some t,some u=>chkT P t u
  | _,_=>false
/-- The order in which new rows come first. -/
def drawPerm0 (P : Program) (ops : Array Oper) : List Nat:=let m:=masks ops
 let fs:=(List.range ops.size).filter (looseOld P ops m)
 let first:=(List.range ops.size).filter fun i=>fs.contains i || fs.any fun j=>(m.getD j 0).testBit i
 first ++ (List.range ops.size).filter fun i=>!first.contains i
/-- The order in which a new row comes just ahead of the first operation that it is not ordered against. -/
def drawKeys (P : Program) (ops : Array Oper) (m : Array Nat) : List (Nat × Nat) :=
 let fresh:=fun i=>match ops.toList[i]? with
  | some o=>freshOp o
  | none=>false
 (List.range ops.size).filterMap fun j=>if fresh j then ((List.range j).find? fun i=>(match ops.toList[i]? with
  | some x=>!isLight P x
  | none=>false) && !fresh i && !ordered m i j).map fun q=>(j,q) else none
def drawPlace (m : Array Nat) (ks : List (Nat × Nat)) (k : Nat) : Nat:=ks.foldl (fun p x=>if (x.1 == k || (m.getD x.1 0).testBit k) && decide (x.2 < p) then x.2 else p) k
def drawPerm1 (P : Program) (ops : Array Oper) : List Nat:=let m:=masks ops
 let ps:=(List.range ops.size).map (drawPlace m (drawKeys P ops m))
 (List.range ops.size).flatMap fun i=>((List.range ops.size).filter fun k=>k != i && ps.getD k k == i) ++ (if ps.getD i i == i then [i] else [])
def drawPerm (P : Program) (ops : Array Oper) : List Nat:=if allOld P ops then drawPerm0 P ops else drawPerm1 P ops
def movedOp (π : List Nat) (o : Oper) : Oper:={ o with after:=o.after.map (fun e=>{ e with on:=π.idxOf e.on }),guard:=o.guard.map fun g=>(π.idxOf g.1,g.2) }
def permOps (π : List Nat) (ops : Array Oper) : Array Oper:=(π.map fun i=>movedOp π ((ops.toList[i]?).getD default)).toArray
def okPerm (π : List Nat) (n : Nat) : Bool:=π.length == n && (List.range n).all fun i=>π.idxOf (π.getD i n) == i && π.getD (π.idxOf i) n == i && decide (π.idxOf i < n) && decide (π.getD i n < n)
/-- The operations in the order in which a drawn region is carried out here. -/
def drawOps (P : Program) (ops : Array Oper) : Array Oper:=if loose P ops then permOps (drawPerm P ops) ops else ops
def eRegion (P : Program) (inv : Inv) (ops : Array Oper) (draw : Bool) (a : Act) (h : AH) : Option (Act × AH) :=
 if draw then
  match eTrace P inv (drawOps P ops) (List.range (drawOps P ops).size) a h with
  | none=>none
  | some (ts,a',h')=>if calm P (drawOps P ops) ts then some (a',h') else none
 else eOps P inv ops (List.range ops.size) a h
/-! ### 8. Code -/
inductive XE where
 | normal | ret | exit (id : Nat)
 deriving DecidableEq
structure Env where
 P : Program
 L : FuncId→Bool
 FT : FuncId→Nat→List Tmp
 O : FuncId→Option (Array Value→AH→Option (Value × AH))
 X : FuncId→Option (Array Value→Option Value)
/-- A value whose call enters a function. -/
def Env.enters (E : Env) : Value→Bool
 | .func (.func f) _ _=>(E.L f || (E.O f).isSome) && (E.X f).isNone
 | _=>false
def forget (ts : List Tmp) (a : Act) : Act:={ a with tmps:=ts.foldl (fun t i=>t.setIfInBounds i unk) a.tmps }
abbrev St:=Option (XE × Act × AH)
def eLoop (body : Act→AH→St) : Nat→Act→AH→St
 | 0,_,_=>none
 | k + 1,a,h=>match body a h with
  | some (.normal,a',h')=>eLoop body k a' h'
  | r=>r
/-- The ways out that a code names. -/
def exitIds : Code→List Nat
 | .exit id=>[id]
 | .seq x y | .cond _ x y | .rangeFunc _ _ x y=>exitIds x ++ exitIds y
 | .block _ c | .loop c | .scope c=>exitIds c
 | _=>[]
def hasRet : Code→Bool
 | .ret=>true
 | .seq x y | .cond _ x y | .rangeFunc _ _ x y=>hasRet x || hasRet y
 | .block _ c | .loop c | .scope c=>hasRet c
 | _=>false
def eRange (f : FuncId) (inv : Inv) (g : Value) (params : Array Tmp) (assign body : Code) (a : Act) (h : AH) : St :=
 match g with
 | .func (.func fn) first captured =>
  match inv (.func fn) captured (first ++ #[.func (.yield h.n) #[] #[]]) (h.alloc (.loop .ready none f a.tmps params assign body)) with
  | some (_,h')=>match h'.get h.n with
   | some (.loop st pend f' ts ps as bd) =>
    if st = .busy then none else
    let h2:=h'.set h.n (.loop .exhausted pend f' ts ps as bd)
    match pend with
    | none=>some (.normal,a,h2)
    | some .ret=>if hasRet body then some (.ret,a,h2) else none
    | some (.exit id)=>if (exitIds body).contains id then some (.exit id,a,h2) else none
    | some _=>none
   | _=>none
  | none=>none
 | _=>none
/-- 'rd': the code of a round (a range over a function in it is not taken in). -/
def eCode (E : Env) (f : FuncId) (rd : Bool) (inv : Inv) (k : Nat) : Code→Act→AH→St
 | .skip,a,h | .label _,a,h=>some (.normal,a,h)
 | .ret,a,h=>some (.ret,a,h)
 | .exit id,a,h=>some (.exit id,a,h)
 | .seq x y,a,h=>match eCode E f rd inv k x a h with
  | some (.normal,a',h')=>eCode E f rd inv k y a' h'
  | r=>r
 | .cond c x y,a,h=>match a.eval c with
  | .bool true=>eCode E f rd inv k x a h
  | .bool false=>eCode E f rd inv k y a h
  | _=>none
 | .block id c,a,h=>match eCode E f rd inv k c a h with
  | some (.exit id',a',h')=>if id' = id then some (.normal,a',h') else some (.exit id',a',h')
  | r=>r
 | .scope c,a,h=>eCode E f rd inv k c a h
 | .loop c,a,h=>eLoop (eCode E f rd inv k c) k a h
 | .region id ops draw,a,h=>(eRegion E.P inv ops draw a h).map fun (a',h')=>(.normal,forget (E.FT f id) a',h')
 | .rangeFunc g ps as bd,a,h=>if rd || !E.enters (a.eval g) then none else eRange f inv (a.eval g) ps as bd a h
 | _,_,_=>none
/-! ### 9. Functions -/
def eResult (P : Program) (a : Act) (h : AH) : ResultVar→Option Value
 | .tmp t=>some (a.tmps.getD t unk)
 | .cell t ty=>pLoad P ty (a.tmps.getD t unk) h
def eResultList (P : Program) (a : Act) (h : AH) : List ResultVar→Option (List Value)
 | []=>some []
 | r :: rs=>match eResult P a h r,eResultList P a h rs with
  | some v,some vs=>some (v :: vs)
  | _,_=>none
def eResults (P : Program) (fn : Func) (a : Act) (h : AH) : Option Value:=match eResultList P a h fn.results.toList with
 | some [v]=>some v
 | some vs=>some (.tuple vs.toArray)
 | none=>none
def eFun (E : Env) (k : Nat) (inv : Inv) (f : FuncId) (args : Array Value) (h : AH) : Option (Value × AH) :=
 match E.O f with
 | some g=>g args h
 | none=>if E.L f then match E.P.funcs[f]? with
   | some fn=>match fn.body with
    | some c=>match fcA (fcV 8) (args ++ Array.replicate (fn.ntmps - args.size) unk) fun ts=>eCode E f false inv k c { tmps:=ts,defers:=[] } h with
     | some (.normal,a,h') | some (.ret,a,h')=>(eResults E.P fn a h').map fun v=>(v,h')
     | _=>none
    | none=>none
   | none=>none
  else none
def eRound (E : Env) (k : Nat) (inv : Inv) (l : Nat) (args : Array Value) (h : AH) : Option (Value × AH) :=
 match h.get l with
 | some (.loop .ready _ f ts ps as bd) =>
  if args.size ≠ ps.size then none else
  match fcA (fcV 8) ((ps.zip args).foldl (fun tmps (t,a)=>tmps.setIfInBounds t a) ts) fun ts=>eCode E f true inv k as { tmps:=ts,defers:=[] } h with
  | some (.normal,a1,h1)=>match h1.get l with
   | some (.loop .ready pend f1 ts1 ps1 as1 bd1)=>match eCode E f true inv k bd a1 (h1.set l (.loop .busy pend f1 ts1 ps1 as1 bd1)) with
    | some (x,_,h2)=>match h2.get l with
     | some (.loop _ _ f2 ts2 ps2 as2 bd2) =>
      let pend : Option Code:=match x with
       | .normal=>none
       | .ret=>some .ret
       | .exit id=>some (.exit id)
      some (.bool pend.isNone,h2.set l (.loop (if pend.isNone then .ready else .done) pend f2 ts2 ps2 as2 bd2))
     | _=>none
    | none=>none
   | _=>none
  | _=>none
 | _=>none
def eInv (E : Env) : Nat→Inv
 | 0=>fun _ _ _ _=>none
 | k + 1=>fun fn captured args h=>match eTarget E.P fn captured args with
  | some (true,f,as)=>(match E.X f with
   | some g=>(g as).map fun v=>(v,h)
   | none=>eFun E k (eInv E k) f as h)
  | some (false,l,as)=>eRound E k (eInv E k) l as h
  | none=>none
end Go.Proofs.Ev
set_option linter.unusedVariables false
namespace Go.Proofs.Ev
open Go Go.RowKit
/-! ### 1. Values -/
structure RB where
 blk : Nat
 base : Nat
 n : Nat
 cap : Nat
 sz : Nat
abbrev Ren:=Nat→Option RB
def Ren.le (ρ ρ' : Ren) : Prop:=∀ i r,ρ i = some r→ρ' i = some r
theorem Ren.le_refl (ρ : Ren) : ρ.le ρ:=fun _ _ h=>h
theorem Ren.le_trans {a b c : Ren} (h : a.le b) (k : b.le c) : a.le c:=fun i r x=>k i r (h i r x)
def Ren.ext (ρ : Ren) (n : Nat) (r : RB) : Ren:=fun i=>if i = n then some r else ρ i
inductive FnR (ρ : Ren) : Fn→Fn→Prop
 | func (f : FuncId) : FnR ρ (.func f) (.func f)
 | methodOf (t : TypeId) (m : String) : FnR ρ (.methodOf t m) (.methodOf t m)
 | yield (l : Nat) (r : RB) : ρ l = some r→FnR ρ (.yield l) (.yield r.blk)
 | method (m : String) : FnR ρ (.method m) (.method m)
def AddrR (ρ : Ren) (a a' : Addr) : Prop:=a.spot = none ∧ ∃ r,ρ a.block = some r ∧ a' = ⟨r.blk,r.base + a.off,none⟩
inductive VR (ρ : Ren) : Value→Value→Prop
 | unk (v : Value) : VR ρ (.tuple #[]) v
 | skipped : VR ρ skipped (.tuple #[])
 | bool (b : Bool) : VR ρ (.bool b) (.bool b)
 | int (k : IntKind) (n : Int) : VR ρ (.int k n) (.int k n)
 | float (k : FloatKind) (n : Nat) : VR ρ (.float k n) (.float k n)
 | string (s : ByteArray) : VR ρ (.string s) (.string s)
 | nilPtr : VR ρ (.pointer none) (.pointer none)
 | ptr (a a' : Addr) : AddrR ρ a a'→VR ρ (.pointer (some a)) (.pointer (some a'))
 | nilSlice (n c : Nat) : VR ρ (.slice none n c) (.slice none n c)
 | slice0 (a a' : Addr) : VR ρ (.slice (some a) 0 0) (.slice (some a') 0 0)
 | slice (a a' : Addr) (n c c' : Nat) (r : RB) : AddrR ρ a a'→ρ a.block = some r→(c' = c ∨ (c ≤ c' ∧ 0 < r.sz ∧ a.off + c * r.sz = r.n ∧ a.off + c' * r.sz ≤ r.cap)) →
   VR ρ (.slice (some a) n c) (.slice (some a') n c')
 | nilMap : VR ρ (.map none) (.map none)
 | map (m : Nat) (r : RB) : ρ m = some r→VR ρ (.map (some m)) (.map (some r.blk))
 | func (f f' : Fn) (a b a' b' : Array Value) : FnR ρ f f'→a.size = a'.size→(∀ (i : Nat) (v v' : Value),a[i]? = some v→a'[i]? = some v'→VR ρ v v') →
   b.size = b'.size→(∀ (i : Nat) (v v' : Value),b[i]? = some v→b'[i]? = some v'→VR ρ v v')→VR ρ (.func f a b) (.func f' a' b')
 | nilFunc : VR ρ .nilFunc .nilFunc
 | iface (t : TypeId) (v v' : Value) : VR ρ v v'→VR ρ (.iface t v) (.iface t v')
 | nilIface : VR ρ .nilIface .nilIface
 | agg (a a' : Array Value) : a.size = a'.size→(∀ (i : Nat) (v v' : Value),a[i]? = some v→a'[i]? = some v'→VR ρ v v')→VR ρ (.agg a) (.agg a')
 | tuple (a a' : Array Value) : a.size = a'.size→(∀ (i : Nat) (v v' : Value),a[i]? = some v→a'[i]? = some v'→VR ρ v v')→VR ρ (.tuple a) (.tuple a')
theorem FnR.mono {ρ ρ' : Ren} (h : ρ.le ρ') {f f' : Fn} (k : FnR ρ f f') : FnR ρ' f f':=by
 cases k with
 | func=>exact .func _
 | methodOf=>exact .methodOf _ _
 | yield l r hr=>exact .yield l r (h _ _ hr)
 | method=>exact .method _
theorem AddrR.mono {ρ ρ' : Ren} (h : ρ.le ρ') {a a' : Addr} (k : AddrR ρ a a') : AddrR ρ' a a':=let ⟨h0,r,h1,h2⟩:=k; ⟨h0,r,h _ _ h1,h2⟩
theorem VR.mono {ρ ρ' : Ren} (h : ρ.le ρ') {v v' : Value} (k : VR ρ v v') : VR ρ' v v':=by
 induction k with
 | unk=>exact .unk _
 | skipped=>exact .skipped
 | bool=>exact .bool _
 | int=>exact .int _ _
 | float=>exact .float _ _
 | string=>exact .string _
 | nilPtr=>exact .nilPtr
 | ptr a a' hr=>exact .ptr _ _ (hr.mono h)
 | nilSlice=>exact .nilSlice _ _
 | slice0=>exact .slice0 _ _
 | slice a a' n c c' r hr h1 h2=>exact .slice _ _ _ _ _ r (hr.mono h) (h _ _ h1) h2
 | nilMap=>exact .nilMap
 | map m r hr=>exact .map _ _ (h _ _ hr)
 | func f f' a b a' b' hf ha _ hb _ iha ihb=>exact .func _ _ _ _ _ _ (hf.mono h) ha iha hb ihb
 | nilFunc=>exact .nilFunc
 | iface t v v' _ ih=>exact .iface _ _ _ ih
 | nilIface=>exact .nilIface
 | agg a a' hs _ ih=>exact .agg _ _ hs ih
 | tuple a a' hs _ ih=>exact .tuple _ _ hs ih
/-- Arrays and lists, value by value. -/
def AsR (ρ : Ren) (a a' : Array Value) : Prop:=a.size = a'.size ∧ ∀ (i : Nat) (v v' : Value),a[i]? = some v→a'[i]? = some v'→VR ρ v v'
inductive LsR (ρ : Ren) : List Value→List Value→Prop
 | nil : LsR ρ [] []
 | cons {x y : Value} {xs ys : List Value} : VR ρ x y→LsR ρ xs ys→LsR ρ (x :: xs) (y :: ys)
theorem AsR.mono {ρ ρ' : Ren} (h : ρ.le ρ') {a a' : Array Value} (k : AsR ρ a a') : AsR ρ' a a':=⟨k.1,fun i v v' x y=>(k.2 i v v' x y).mono h⟩
theorem LsR.mono {ρ ρ' : Ren} (h : ρ.le ρ') {a a' : List Value} (k : LsR ρ a a') : LsR ρ' a a':=by
 induction k with
 | nil=>exact .nil
 | cons hx _ ih=>exact .cons (hx.mono h) ih
theorem AsR.list {ρ : Ren} {a a' : Array Value} : AsR ρ a a' ↔ LsR ρ a.toList a'.toList:=by
 constructor
 ·rintro ⟨h1,h2⟩
  have : ∀ (l l' : List Value),l.length = l'.length→(∀ (i : Nat) (v v' : Value),l[i]? = some v→l'[i]? = some v'→VR ρ v v')→LsR ρ l l':=by
   intro l
   induction l with
   | nil=>intro l' hl _; cases l' with
    | nil=>exact .nil
    | cons=>simp at hl
   | cons x xs ih =>
    intro l' hl hv
    cases l' with
    | nil=>simp at hl
    | cons y ys=>exact .cons (hv 0 x y rfl rfl) (ih ys (by simpa using hl) fun i v v' a b=>hv (i + 1) v v' a b)
  exact this _ _ (by simpa using h1) (fun i v v' x y=>h2 i v v' (by simpa using x) (by simpa using y))
 ·intro h
  have : ∀ (l l' : List Value),LsR ρ l l'→l.length = l'.length ∧ (∀ (i : Nat) (v v' : Value),l[i]? = some v→l'[i]? = some v'→VR ρ v v'):=by
   intro l l' hl
   induction hl with
   | nil=>exact ⟨rfl,fun i v v' a=>by simp at a⟩
   | cons hxy _ ih =>
    refine ⟨by simp [ih.1],fun i v v' a b=>?_⟩
    cases i with
    | zero=>simp at a b; subst a; subst b; exact hxy
    | succ i=>exact ih.2 i v v' (by simpa using a) (by simpa using b)
  have:=this _ _ h
  exact ⟨by simpa using this.1,fun i v v' x y=>this.2 i v v' (by simpa using x) (by simpa using y)⟩
theorem LsR.length {ρ : Ren} {a a' : List Value} (h : LsR ρ a a') : a.length = a'.length:=by
 induction h with
 | nil=>rfl
 | cons _ _ ih=>simp [ih]
theorem LsR.get {ρ : Ren} {a a' : List Value} (h : LsR ρ a a') {i : Nat} {v : Value} (hv : a[i]? = some v) : ∃ v',a'[i]? = some v' ∧ VR ρ v v':=by
 induction h generalizing i with
 | nil=>simp at hv
 | cons hxy _ ih =>
  cases i with
  | zero=>simp at hv; subst hv; exact ⟨_,rfl,hxy⟩
  | succ i=>simpa using ih (by simpa using hv)
theorem AsR.get {ρ : Ren} {a a' : Array Value} (h : AsR ρ a a') {i : Nat} {v : Value} (hv : a[i]? = some v) : ∃ v',a'[i]? = some v' ∧ VR ρ v v':=by
 have hi : i < a'.size:=h.1 ▸ (Array.getElem?_eq_some_iff.1 hv).1
 exact ⟨a'[i],by simp [hi],h.2 i v _ hv (by simp [hi])⟩
theorem AsR.getD {ρ : Ren} {a a' : Array Value} (h : AsR ρ a a') (i : Nat) : VR ρ (a.getD i unk) (a'.getD i unk):=by
 cases hv : a[i]? with
 | some v=>obtain ⟨v',h1,h2⟩:=h.get hv; simpa [hv,h1] using h2
 | none =>
  have : a'[i]? = none:=by rw [Array.getElem?_eq_none_iff] at *; rw [← h.1]; exact hv
  simpa [hv,this,unk] using VR.unk _
theorem AsR.set {ρ : Ren} {a a' : Array Value} (h : AsR ρ a a') (i : Nat) {v v' : Value} (hv : VR ρ v v') : AsR ρ (a.setIfInBounds i v) (a'.setIfInBounds i v'):=by
 refine ⟨by simp [h.1],fun j x x' hx hx'=>?_⟩
 rw [Array.getElem?_setIfInBounds] at hx hx'
 by_cases hij : i = j
 ·subst hij
  rw [if_pos rfl] at hx hx'
  split at hx <;> split at hx' <;> simp_all
 ·rw [if_neg hij] at hx hx'
  exact h.2 j x x' hx hx'
/-- Values without an address are the same. -/
theorem VR.eq0 {ρ : Ren} {v v' : Value} (h : VR ρ v v') (hp : plain0 v = true) : v = v':=by
 cases h <;> simp_all [plain0,Ev.skipped]
theorem LsR.eq0 {ρ : Ren} {a a' : List Value} (h : LsR ρ a a') (hp : a.all plain0 = true) : a = a':=by
 induction h with
 | nil=>rfl
 | cons hxy _ ih =>
  simp only [List.all_cons,Bool.and_eq_true] at hp
  rw [hxy.eq0 hp.1,ih hp.2]
theorem VR.eqP {ρ : Ren} {v v' : Value} (h : VR ρ v v') (hp : plain v = true) : v = v':=by
 cases h with
 | agg a a' hs hv =>
  have:=LsR.eq0 (AsR.list.1 ⟨hs,hv⟩) hp
  exact congrArg Value.agg (Array.toList_inj.1 this)
 | _=>exact VR.eq0 (ρ:=ρ) (by constructor <;> assumption) hp
theorem VR.refl0 (ρ : Ren) {v : Value} (hp : plain0 v = true) : VR ρ v v:=by
 cases v with
 | pointer a=>cases a <;> simp_all [plain0]; exact .nilPtr
 | slice a n c=>cases a <;> simp_all [plain0]; exact .nilSlice _ _
 | map a=>cases a <;> simp_all [plain0]; exact .nilMap
 | _=>first | (simp [plain0] at hp; done) | (constructor; done)
theorem LsR.refl0 (ρ : Ren) {a : List Value} (hp : a.all plain0 = true) : LsR ρ a a:=by
 induction a with
 | nil=>exact .nil
 | cons x xs ih =>
  simp only [List.all_cons,Bool.and_eq_true] at hp
  exact .cons (VR.refl0 ρ hp.1) (ih hp.2)
theorem VR.reflP (ρ : Ren) {v : Value} (hp : plain v = true) : VR ρ v v:=by
 cases v with
 | agg a=>have:=AsR.list.2 (LsR.refl0 ρ hp); exact .agg _ _ this.1 this.2
 | _=>exact VR.refl0 ρ hp
/-- A value's cells. -/
theorem VR.cells {ρ : Ren} {v v' : Value} (h : VR ρ v v') (hk : kn v = true) : AsR ρ v.cells v'.cells:=by
 cases h with
 | agg a a' hs hv=>exact ⟨hs,hv⟩
 | unk=>simp [kn] at hk
 | skipped=>simp [kn,Ev.skipped] at hk
 | _=>refine AsR.list.2 (.cons ?_ .nil); constructor <;> assumption
theorem prun_run {P : Program} {α : Type} {s : Sem α} {a : α} (h : prun P s = some a) : ∀ w,s.run P w = .ok a w:=by
 induction s generalizing a with
 | pure x=>intro w; simp [prun] at h; subst h; rfl
 | program k ih=>intro w; simp only [prun] at h; simpa [Sem.run] using ih P h w
 | _=>simp [prun] at h
end Go.Proofs.Ev
set_option linter.unusedVariables false
namespace Go.Proofs.Ev
open Go Go.RowKit
/-! ### 1. Objects -/
structure CellsR (P : Program) (B : Nat) (ρ : Ren) (w : World) (r : RB) (c : List Value) (e : TypeId) (own : Bool) : Prop where
 n : r.n = c.length
 le : r.n ≤ r.cap
 heap : ∃ (c' : Array Value) (e' : TypeId) (fz : Nat × Nat),w.heap[r.blk]? = some (.cells c' e' fz) ∧ r.base + r.cap ≤ c'.size ∧
  (∀ (k : Nat) (v : Value),c[k]? = some v→∃ v',c'[r.base + k]? = some v' ∧ VR ρ v v') ∧
  (own = true→fz.1 = fz.2 ∨ c'.size ≤ fz.1)
 mine : own = true→B ≤ r.blk ∧ szT P e = some r.sz
 ext : own = false→r.blk < B ∧ r.cap = r.n
 flat : own = true→r.base = 0
def EnR (ρ : Ren) (e e' : MapEntry) : Prop:=VR ρ e.key e'.key ∧ VR ρ e.val e'.val ∧ e.born = e'.born
inductive EsR (ρ : Ren) : List MapEntry→List MapEntry→Prop
 | nil : EsR ρ [] []
 | cons {x y : MapEntry} {xs ys : List MapEntry} : EnR ρ x y→EsR ρ xs ys→EsR ρ (x :: xs) (y :: ys)
theorem EsR.mono {ρ ρ' : Ren} (h : ρ.le ρ') {a a' : List MapEntry} (k : EsR ρ a a') : EsR ρ' a a':=by
 induction k with
 | nil=>exact .nil
 | cons hx _ ih=>exact .cons ⟨hx.1.mono h,hx.2.1.mono h,hx.2.2⟩ ih
theorem EsR.length {ρ : Ren} {a a' : List MapEntry} (h : EsR ρ a a') : a.length = a'.length:=by
 induction h with
 | nil=>rfl
 | cons _ _ ih=>simp [ih]
theorem EsR.append {ρ : Ren} {a a' b b' : List MapEntry} (h : EsR ρ a a') (k : EsR ρ b b') : EsR ρ (a ++ b) (a' ++ b'):=by
 induction h with
 | nil=>exact k
 | cons hx _ ih=>exact .cons hx ih
theorem EsR.modify {ρ : Ren} {a a' : List MapEntry} (h : EsR ρ a a') (i : Nat) (f g : MapEntry→MapEntry) (hf : ∀ e e',EnR ρ e e'→EnR ρ (f e) (g e')) : EsR ρ (a.modify i f) (a'.modify i g):=by
 induction h generalizing i with
 | nil=>simp; exact .nil
 | cons hx hr ih =>
  cases i with
  | zero=>exact .cons (hf _ _ hx) hr
  | succ i=>exact .cons hx (ih i)
def mine : AO→Bool
 | .cells _ _ own=>own
 | .dead=>false
 | _=>true
def isC : AO→Bool
 | .cells ..=>true
 | _=>false
/-- 'G': what is known of the code of a round. -/
def ObjR (G : Code→Prop) (P : Program) (B : Nat) (ρ : Ren) (w : World) (r : RB) : AO→Prop
 | .cells c e own=>CellsR P B ρ w r c e own
 | .map es clock=>B ≤ r.blk ∧ ∃ es' : Array MapEntry,w.heap[r.blk]? = some (.map es' clock) ∧ EsR ρ es es'.toList
 | .iter s pos=>B ≤ r.blk ∧ r.base = 0 ∧ w.heap[r.blk]? = some (.stringIter s pos)
 | .miter m since seen st=>B ≤ r.blk ∧ r.base = 0 ∧ ∃ rm,ρ m = some rm ∧ w.heap[r.blk]? = some (.mapIter (some rm.blk) since seen.toArray st)
 | .loop st pd _ ts ps as bd=>B ≤ r.blk ∧ G as ∧ G bd ∧ ∃ (f' : FuncId) (ts' : Array Value) (d : Nat),
   w.heap[r.blk]? = some (.loop { state:=st,pending:=pd,fn:=f',tmps:=ts',params:=ps,assign:=as,body:=bd,defers:=d }) ∧ AsR ρ ts ts'
 | .dead=>True
/-! ### 2. The whole -/
/-- What is known of blocks that the evaluator does not see: deferred calls of a loop; blocks that it has, but the world has not yet ('late'). -/
inductive Mk where
 | d (n : Nat)
 | late (b : Nat) (o : AO)
def Mk.key : Mk→Nat
 | .d n=>2 * n
 | .late b _=>2 * b + 1
def Late (D : List Mk) (i : Nat) : Prop:=∃ o,Mk.late i o ∈ D
structure Sim (G : Code→Prop) (P : Program) (w0 : World) (ρ : Ren) (D : List Mk) (h : AH) (w : World) : Prop where
 below : Below w0.heap.size w0 w
 dom : ∀ i r,ρ i = some r→i < h.n ∧ r.blk < w.heap.size
 obj : ∀ i o,h.get i = some o→o ≠ .dead→¬ Late D i→∃ r,ρ i = some r ∧ ObjR G P w0.heap.size ρ w r o
 sep : ∀ i j oi oj ri rj,i ≠ j→h.get i = some oi→h.get j = some oj→mine oi = true→mine oj = true→ρ i = some ri→ρ j = some rj →
  ri.blk ≠ rj.blk ∨ (isC oi = true ∧ isC oj = true ∧ (ri.base + ri.cap ≤ rj.base ∨ rj.base + rj.cap ≤ ri.base))
 defs : ∀ d,Mk.d d ∈ D→w0.heap.size ≤ d ∧ w.heap[d]? = some (.deferred (some []))
 nodup : (D.map Mk.key).Nodup
 late : ∀ b o,Mk.late b o ∈ D→ρ b = none ∧ (h.get b = some o ∨ h.get b = some .dead)
variable {G : Code→Prop} {P : Program} {w0 : World} {ρ : Ren} {D : List Mk} {h : AH} {w : World}
theorem Sim.lt (S : Sim G P w0 ρ D h w) : w0.heap.size ≤ w.heap.size:=S.below.size
theorem Sim.notLate (S : Sim G P w0 ρ D h w) {i : Nat} {r : RB} (hr : ρ i = some r) : ¬ Late D i:=fun ⟨o,ho⟩=>by
 rw [(S.late i o ho).1] at hr
 cases hr
theorem Sim.objAt (S : Sim G P w0 ρ D h w) {i : Nat} {o : AO} {r0 : RB} (hr : ρ i = some r0) (hi : h.get i = some o) (hd : o ≠ .dead) : ∃ r,ρ i = some r ∧ ObjR G P w0.heap.size ρ w r o:=S.obj i o hi hd (S.notLate hr)
theorem Sim.cells (S : Sim G P w0 ρ D h w) {i : Nat} {c : List Value} {e : TypeId} {own : Bool} {r0 : RB} (hr : ρ i = some r0) (hi : h.get i = some (.cells c e own)) :
  ∃ r,ρ i = some r ∧ CellsR P w0.heap.size ρ w r c e own:=S.objAt hr hi (by simp)
theorem Sim.lateLt (S : Sim G P w0 ρ D h w) {b : Nat} {o : AO} (hb : Mk.late b o ∈ D) : b < h.n:=by
 rcases (S.late b o hb).2 with h1 | h1 <;> exact AH.get_lt h1
theorem ext_le (S : Sim G P w0 ρ D h w) (r : RB) : ρ.le (ρ.ext h.n r):=fun i x hx=>by
 have:=(S.dom i x hx).1
 unfold Ren.ext
 rw [if_neg (by omega)]; exact hx
theorem ext_new (ρ : Ren) (n : Nat) (r : RB) : ρ.ext n r n = some r:=by simp [Ren.ext]
theorem ext_old (ρ : Ren) {n i : Nat} (r : RB) (hi : i ≠ n) : ρ.ext n r i = ρ i:=by simp [Ren.ext,hi]
/-- An object that lies as it lay. -/
theorem ObjR.same {B : Nat} {ρ ρ' : Ren} {w w' : World} {r : RB} {o : AO} (h : ObjR G P B ρ w r o) (hρ : ρ.le ρ') (hw : w'.heap[r.blk]? = w.heap[r.blk]?) : ObjR G P B ρ' w' r o:=by
 cases o with
 | cells c e own =>
  obtain ⟨c',e',fz,h1,h2,h3,h4⟩:=CellsR.heap h
  exact ⟨CellsR.n h,CellsR.le h,⟨c',e',fz,hw.trans h1,h2,fun k v hv=>let ⟨v',a,b⟩:=h3 k v hv; ⟨v',a,b.mono hρ⟩,h4⟩,CellsR.mine h,CellsR.ext h,CellsR.flat h⟩
 | map es clk=>obtain ⟨h0,es',h1,h2⟩:=h; exact ⟨h0,es',hw.trans h1,h2.mono hρ⟩
 | iter s p=>obtain ⟨h0,hb,h1⟩:=h; exact ⟨h0,hb,hw.trans h1⟩
 | miter m s l t=>obtain ⟨h0,hb,rm,h1,h2⟩:=h; exact ⟨h0,hb,rm,hρ _ _ h1,hw.trans h2⟩
 | loop st pd f ts ps as bd=>obtain ⟨h0,g1,g2,f',ts',d,h1,h2⟩:=h; exact ⟨h0,g1,g2,f',ts',d,hw.trans h1,h2.mono hρ⟩
 | dead=>trivial
theorem ObjR.blk_ge {B : Nat} {r : RB} {o : AO} (h : ObjR G P B ρ w r o) (hm : mine o = true) : B ≤ r.blk:=by
 cases o with
 | cells c e own=>exact (CellsR.mine h hm).1
 | map es clk=>exact h.1
 | iter s p=>exact h.1
 | miter m s l t=>exact h.1
 | loop st pd f ts ps as bd=>exact h.1
 | dead=>simp [mine] at hm
theorem ObjR.heap_some {B : Nat} {r : RB} {o : AO} (h : ObjR G P B ρ w r o) (hm : o ≠ .dead) : ∃ x,w.heap[r.blk]? = some x ∧ (isC o = true ↔ ∃ c e f,x = .cells c e f):=by
 cases o with
 | cells c e own=>obtain ⟨c',e',fz,h1,_⟩:=CellsR.heap h; exact ⟨_,h1,by simp [isC]⟩
 | map es clk=>obtain ⟨_,es',h1,_⟩:=h; exact ⟨_,h1,by simp [isC]⟩
 | iter s p=>exact ⟨_,h.2.2,by simp [isC]⟩
 | miter m s l t=>obtain ⟨_,_,rm,_,h1⟩:=h; exact ⟨_,h1,by simp [isC]⟩
 | loop st pd f ts ps as bd=>obtain ⟨_,_,_,f',ts',d,h1,_⟩:=h; exact ⟨_,h1,by simp [isC]⟩
 | dead=>exact absurd rfl hm
theorem Sim.drawn (S : Sim G P w0 ρ D h w) (n : Nat) : Sim G P w0 ρ D h { w with drawn:=n } :=
 ⟨⟨S.below.os,S.below.tape,S.below.output,S.below.size,S.below.block⟩,S.dom,fun i o hi hd hl=>let ⟨r,hr,ho⟩:=S.obj i o hi hd hl; ⟨r,hr,ObjR.same ho (Ren.le_refl _) rfl⟩,S.sep,S.defs,S.nodup,S.late⟩
theorem push_old (w : World) (o : Obj) {k : Nat} (hk : k < w.heap.size) : (w.alloc o).heap[k]? = w.heap[k]?:=Below.heap_alloc w o k hk
theorem push_new (w : World) (o : Obj) : (w.alloc o).heap[w.heap.size]? = some o:=by
 show (w.heap.push o)[w.heap.size]? = _
 simp
/-- A new object on either side. -/
theorem Sim.alloc (S : Sim G P w0 ρ D h w) (o : AO) (o' : Obj) (r : RB) (hr : r.blk = w.heap.size) (ho : ObjR G P w0.heap.size (ρ.ext h.n r) (w.alloc o') r o) :
  Sim G P w0 (ρ.ext h.n r) D (h.alloc o) (w.alloc o'):=by
 have hle:=ext_le S r
 refine ⟨S.below.alloc S.lt o',?_,?_,?_,?_,S.nodup,fun b ob hb=>?_⟩
 ·intro i x hx
  by_cases hi : i = h.n
  ·subst hi
   rw [ext_new] at hx
   cases hx
   simp [hr]
  ·rw [ext_old ρ r hi] at hx
   have:=S.dom i x hx
   simp
   omega
 ·intro i x hx hd hl
  by_cases hi : i = h.n
  ·subst hi
   rw [AH.get_alloc_new] at hx
   cases hx
   exact ⟨r,ext_new _ _ _,ho⟩
  ·have hlt : i < h.n:=by have:=AH.get_lt hx; simp at this; omega
   rw [AH.get_alloc_old h o hlt] at hx
   obtain ⟨q,hq,hob⟩:=S.obj i x hx hd hl
   exact ⟨q,hle _ _ hq,hob.same hle (push_old w o' (S.dom i q hq).2)⟩
 ·intro i j oi oj ri rj hij hi hj mi mj hri hrj
  have key : ∀ i j oi oj ri rj,i ≠ j→i = h.n→(h.alloc o).get i = some oi→(h.alloc o).get j = some oj→mine oj = true→ρ.ext h.n r i = some ri→ρ.ext h.n r j = some rj→ri.blk ≠ rj.blk:=by
   intro i j oi oj ri rj hij hin hi hj mj hri hrj
   subst hin
   rw [ext_new] at hri
   cases hri
   have hjn : j ≠ h.n:=Ne.symm hij
   rw [ext_old ρ r hjn] at hrj
   have:=(S.dom j rj hrj).2
   omega
  by_cases hi' : i = h.n
  ·exact .inl (key i j oi oj ri rj hij hi' hi hj mj hri hrj)
  ·by_cases hj' : j = h.n
   ·exact .inl (Ne.symm (key j i oj oi rj ri (Ne.symm hij) hj' hj hi mi hrj hri))
   ·have l1 : i < h.n:=by have:=AH.get_lt hi; simp at this; omega
    have l2 : j < h.n:=by have:=AH.get_lt hj; simp at this; omega
    rw [AH.get_alloc_old h o l1] at hi
    rw [AH.get_alloc_old h o l2] at hj
    rw [ext_old ρ r hi'] at hri
    rw [ext_old ρ r hj'] at hrj
    exact S.sep i j oi oj ri rj hij hi hj mi mj hri hrj
 ·intro d hd
  obtain ⟨h1,h2⟩:=S.defs d hd
  have : d < w.heap.size:=(Array.getElem?_eq_some_iff.1 h2).1
  exact ⟨h1,by rw [push_old w o' this]; exact h2⟩
 ·have hlt:=S.lateLt hb
  rw [ext_old ρ r (by omega),AH.get_alloc_old h o hlt]
  exact S.late b ob hb
theorem nodup_d {D : List Mk} {n : Nat} (h : Mk.d n ∉ D) (hn : (D.map Mk.key).Nodup) : ((Mk.d n :: D).map Mk.key).Nodup:=by
 rw [List.map_cons,List.nodup_cons]
 refine ⟨fun hm=>?_,hn⟩
 obtain ⟨x,hx,he⟩:=List.mem_map.1 hm
 cases x with
 | d m =>
  simp only [Mk.key] at he
  obtain rfl : m = n:=by omega
  exact h hx
 | late b o=>simp only [Mk.key] at he; omega
theorem nodup_late {D : List Mk} {b : Nat} {o : AO} (h : ¬ Late D b) (hn : (D.map Mk.key).Nodup) : ((Mk.late b o :: D).map Mk.key).Nodup:=by
 rw [List.map_cons,List.nodup_cons]
 refine ⟨fun hm=>?_,hn⟩
 obtain ⟨x,hx,he⟩:=List.mem_map.1 hm
 cases x with
 | d m=>simp only [Mk.key] at he; omega
 | late b' o' =>
  simp only [Mk.key] at he
  obtain rfl : b' = b:=by omega
  exact h ⟨o',hx⟩
/-- A block that the evaluator has, and the world not yet. -/
theorem Sim.reserve (S : Sim G P w0 ρ D h w) (o : AO) : Sim G P w0 ρ (Mk.late h.n o :: D) (h.alloc o) w:=by
 have hnone : ρ h.n = none:=by
  cases hr : ρ h.n with
  | none=>rfl
  | some r=>have:=(S.dom _ _ hr).1; omega
 have old : ∀ i x,(h.alloc o).get i = some x→i ≠ h.n→h.get i = some x:=fun i x hx hi=>by
  have hlt : i < h.n:=by have:=AH.get_lt hx; simp at this; omega
  rwa [AH.get_alloc_old h o hlt] at hx
 refine ⟨S.below,fun i r hr=>?_,fun i x hi hd hl=>?_,fun i j oi oj ri rj hij hi hj mi mj hri hrj=>?_,fun d hd=>S.defs d (by simpa using hd),nodup_late (fun ⟨o',ho'⟩=>?_) S.nodup,fun b ob hb=>?_⟩
 ·have:=S.dom i r hr
  simp
  omega
 ·by_cases hin : i = h.n
  ·subst hin
   exact absurd ⟨o,by simp⟩ hl
  ·exact S.obj i x (old i x hi hin) hd (fun ⟨o',ho'⟩=>hl ⟨o',by simp [ho']⟩)
 ·have h1 : i ≠ h.n:=by rintro rfl; rw [hnone] at hri; cases hri
  have h2 : j ≠ h.n:=by rintro rfl; rw [hnone] at hrj; cases hrj
  exact S.sep i j oi oj ri rj hij (old i oi hi h1) (old j oj hj h2) mi mj hri hrj
 ·have:=S.lateLt ho'
  omega
 ·rcases List.mem_cons.1 hb with hb | hb
  ·cases hb
   exact ⟨hnone,.inl (AH.get_alloc_new h o)⟩
  ·rw [AH.get_alloc_old h o (S.lateLt hb)]
   exact S.late b ob hb
/-- Such a block, made in the world, too. -/
theorem Sim.settle {D2 : List Mk} (S : Sim G P w0 ρ D h w) {b : Nat} {o : AO} (hb : Mk.late b o ∈ D) (hD : ∀ x ∈ D2,x ∈ D) (hD' : ∀ x ∈ D,x ∈ D2 ∨ ∃ o',x = Mk.late b o') (hnd : (D2.map Mk.key).Nodup) (hl : ¬ Late D2 b)
  (o' : Obj) (r : RB) (hr : r.blk = w.heap.size) (ho : ObjR G P w0.heap.size (ρ.ext b r) (w.alloc o') r o) : ρ.le (ρ.ext b r) ∧ Sim G P w0 (ρ.ext b r) D2 h (w.alloc o'):=by
 have hnone:=(S.late b o hb).1
 have hbn:=S.lateLt hb
 have hle : ρ.le (ρ.ext b r):=fun i x hx=>by
  have : i ≠ b:=by rintro rfl; rw [hnone] at hx; cases hx
  rw [ext_old ρ r this]; exact hx
 refine ⟨hle,S.below.alloc S.lt o',fun i x hx=>?_,fun i x hx hd hli=>?_,fun i j oi oj ri rj hij hi hj mi mj hri hrj=>?_,fun d hd=>?_,hnd,fun b' ob hb'=>?_⟩
 ·by_cases hi : i = b
  ·subst hi
   rw [ext_new] at hx
   cases hx
   simp [hr]
   exact hbn
  ·rw [ext_old ρ r hi] at hx
   have:=S.dom i x hx
   simp
   omega
 ·by_cases hi : i = b
  ·subst hi
   refine ⟨r,ext_new _ _ _,?_⟩
   rcases (S.late i o hb).2 with h1 | h1
   ·rw [h1] at hx; cases hx; exact ho
   ·rw [h1] at hx; cases hx; exact absurd rfl hd
  ·obtain ⟨q,hq,hob⟩:=S.obj i x hx hd (fun ⟨o1,ho1⟩=>by
    rcases hD' _ ho1 with h1 | ⟨o2,h1⟩
    ·exact hli ⟨o1,h1⟩
    ·cases h1; exact hi rfl)
   exact ⟨q,hle _ _ hq,hob.same hle (push_old w o' (S.dom i q hq).2)⟩
 ·have key : ∀ (i j : Nat) (oj : AO) (ri rj : RB),i ≠ j→i = b→h.get j = some oj→ρ.ext b r i = some ri→ρ.ext b r j = some rj→ri.blk ≠ rj.blk:=by
   intro i j oj ri rj hij hib hj hri hrj
   subst hib
   rw [ext_new] at hri
   cases hri
   rw [ext_old ρ r (Ne.symm hij)] at hrj
   have:=(S.dom j rj hrj).2
   omega
  by_cases hi' : i = b
  ·exact .inl (key i j oj ri rj hij hi' hj hri hrj)
  ·by_cases hj' : j = b
   ·exact .inl (Ne.symm (key j i oi rj ri (Ne.symm hij) hj' hi hrj hri))
   ·rw [ext_old ρ r hi'] at hri
    rw [ext_old ρ r hj'] at hrj
    exact S.sep i j oi oj ri rj hij hi hj mi mj hri hrj
 ·obtain ⟨h1,h2⟩:=S.defs d (hD _ hd)
  have : d < w.heap.size:=(Array.getElem?_eq_some_iff.1 h2).1
  exact ⟨h1,by rw [push_old w o' this]; exact h2⟩
 ·have hne : b' ≠ b:=by
   rintro rfl
   exact hl ⟨ob,hb'⟩
  rw [ext_old ρ r hne]
  exact S.late b' ob (hD _ hb')
/-- A block of the concrete side alone, for the deferred calls of a loop. -/
theorem Sim.allocDefers (S : Sim G P w0 ρ D h w) : Sim G P w0 ρ (Mk.d w.heap.size :: D) h (w.alloc (.deferred (some []))):=by
 refine ⟨S.below.alloc S.lt _,fun i r hr=>?_,fun i o hi hd hl=>?_,S.sep,fun d hd=>?_,nodup_d (fun hm=>by have:=(Array.getElem?_eq_some_iff.1 (S.defs _ hm).2).1; omega) S.nodup,fun b o hb=>S.late b o (by simpa using hb)⟩
 ·have:=S.dom i r hr
  simp
  omega
 ·obtain ⟨q,hq,hob⟩:=S.obj i o hi hd (fun ⟨o,ho⟩=>hl ⟨o,List.mem_cons_of_mem _ ho⟩)
  exact ⟨q,hq,hob.same (Ren.le_refl _) (push_old w _ (S.dom i q hq).2)⟩
 ·rcases List.mem_cons.1 hd with hd | hd
  ·cases hd; exact ⟨S.lt,push_new w _⟩
  ·obtain ⟨h1,h2⟩:=S.defs d hd
   have : d < w.heap.size:=(Array.getElem?_eq_some_iff.1 h2).1
   exact ⟨h1,by rw [push_old w _ this]; exact h2⟩
/-- An object given up. -/
theorem Sim.giveUp (S : Sim G P w0 ρ D h w) (i : Nat) : Sim G P w0 ρ D (h.set i .dead) w:=by
 refine ⟨S.below,fun j r hr=>by simpa using S.dom j r hr,fun j o hj hd hl=>?_,fun a b oa ob ra rb hab ha hb ma mb hra hrb=>?_,S.defs,S.nodup,fun b o hb=>⟨(S.late b o hb).1,?_⟩⟩
 ·by_cases hij : i = j
  ·subst hij
   cases ho : h.get i with
   | some x=>rw [AH.get_set_same h _ x ho] at hj; cases hj; exact absurd rfl hd
   | none =>
    by_cases hlt : i < h.n
    ·unfold AH.set at hj
     rw [if_pos hlt] at hj
     unfold AH.get at hj ho
     rw [if_pos hlt] at hj ho
     simp only at hj
     rw [List.getElem?_set] at hj
     rw [List.getElem?_eq_none_iff] at ho
     split at hj
     ·split at hj
      ·omega
      ·cases hj
     ·rename_i hne; exact absurd rfl hne
    ·unfold AH.set at hj; rw [if_neg hlt] at hj; rw [ho] at hj; cases hj
  ·rw [AH.get_set_other h _ hij] at hj
   exact S.obj j o hj hd hl
 ·have g : ∀ (x : Nat) (o : AO),(h.set i .dead).get x = some o→mine o = true→h.get x = some o:=by
   intro x o hx hm
   by_cases hix : i = x
   ·subst hix
    cases ho : h.get i with
    | some y=>rw [AH.get_set_same h _ y ho] at hx; cases hx; simp [mine] at hm
    | none =>
     exfalso
     by_cases hlt : i < h.n
     ·unfold AH.set at hx
      rw [if_pos hlt] at hx
      unfold AH.get at hx ho
      rw [if_pos hlt] at hx ho
      simp only at hx
      rw [List.getElem?_set] at hx
      rw [List.getElem?_eq_none_iff] at ho
      split at hx
      ·split at hx
       ·omega
       ·cases hx
      ·rename_i hne; exact absurd rfl hne
     ·unfold AH.set at hx; rw [if_neg hlt] at hx; rw [ho] at hx; cases hx
   ·rwa [AH.get_set_other h _ hix] at hx
  exact S.sep a b oa ob ra rb hab (g a oa ha ma) (g b ob hb mb) ma mb hra hrb
 ·by_cases hib : i = b
  ·subst hib
   rcases (S.late i o hb).2 with h1 | h1 <;> exact .inr (AH.get_set_same h _ _ h1)
  ·rw [AH.get_set_other h _ hib]
   exact (S.late b o hb).2
/-- An object of one's own turned, on either side, its kind kept; the block is another one's no more than before. -/
theorem Sim.turn (S : Sim G P w0 ρ D h w) {i : Nat} {o o1 : AO} {r : RB} {w1 : World} (hi : h.get i = some o) (hr : ρ i = some r) (hm : mine o = true) (hm1 : mine o1 = true) (hc : isC o1 = isC o)
  (hb : Below w0.heap.size w0 w1) (hsz : w1.heap.size = w.heap.size) (hother : ∀ k,k ≠ r.blk→w1.heap[k]? = w.heap[k]?)
  (hsame : ∀ j oj rj,j ≠ i→h.get j = some oj→mine oj = true→ρ j = some rj→rj.blk = r.blk→ObjR G P w0.heap.size ρ w rj oj→ObjR G P w0.heap.size ρ w1 rj oj)
  (ho : ObjR G P w0.heap.size ρ w1 r o1) : Sim G P w0 ρ D (h.set i o1) w1:=by
 have hob:=S.objAt hr hi (by rintro rfl; simp [mine] at hm)
 obtain ⟨r0,hr0,hob⟩:=hob
 rw [hr] at hr0
 cases hr0
 have hge:=hob.blk_ge hm
 refine ⟨hb,fun j q hq=>by have:=S.dom j q hq; simp; omega,fun j oj hj hd hl=>?_,fun a b oa ob ra rb hab ha hb' ma mb hra hrb=>?_,fun d hd=>?_,S.nodup,fun b ob hb=>?_⟩
 ·by_cases hij : i = j
  ·subst hij
   rw [AH.get_set_same h _ o hi] at hj
   cases hj
   exact ⟨r,hr,ho⟩
  ·rw [AH.get_set_other h _ hij] at hj
   obtain ⟨q,hq,hobj⟩:=S.obj j oj hj hd hl
   refine ⟨q,hq,?_⟩
   by_cases hqr : q.blk = r.blk
   ·by_cases hmj : mine oj = true
    ·exact hsame j oj q (Ne.symm hij) hj hmj hq hqr hobj
    ·cases oj with
     | cells c e own =>
      have : own = false:=by simpa [mine] using hmj
      have:=(CellsR.ext hobj this).1
      omega
     | dead=>exact absurd rfl hd
     | _=>simp [mine] at hmj
   ·exact hobj.same (Ren.le_refl _) (hother _ hqr)
 ·have g : ∀ (x : Nat) (ox : AO),(h.set i o1).get x = some ox→mine ox = true→∃ oy,h.get x = some oy ∧ mine oy = true ∧ isC oy = isC ox:=by
   intro x ox hx hmx
   by_cases hix : i = x
   ·subst hix
    rw [AH.get_set_same h _ o hi] at hx
    cases hx
    exact ⟨o,hi,hm,hc.symm⟩
   ·rw [AH.get_set_other h _ hix] at hx
    exact ⟨ox,hx,hmx,rfl⟩
  obtain ⟨oa',ha1,ha2,ha3⟩:=g a oa ha ma
  obtain ⟨ob',hb1,hb2,hb3⟩:=g b ob hb' mb
  rw [← ha3,← hb3]
  exact S.sep a b oa' ob' ra rb hab ha1 hb1 ha2 hb2 hra hrb
 ·obtain ⟨h1,h2⟩:=S.defs d hd
  refine ⟨h1,?_⟩
  by_cases hdr : d = r.blk
  ·obtain ⟨x,hx,_⟩:=hob.heap_some (by rintro rfl; simp [mine] at hm)
   rw [← hdr,h2] at hx
   cases hx
   exfalso
   cases o with
   | cells c e own=>obtain ⟨c',e',fz,k1,_⟩:=CellsR.heap hob; rw [← hdr,h2] at k1; cases k1
   | map es clk=>obtain ⟨_,es',k1,_⟩:=hob; rw [← hdr,h2] at k1; cases k1
   | iter s p=>have:=hob.2.2; rw [← hdr,h2] at this; cases this
   | miter m s l t=>obtain ⟨_,_,rm,_,k1⟩:=hob; rw [← hdr,h2] at k1; cases k1
   | loop st pd f ts ps as bd=>obtain ⟨_,_,_,f',ts',d',k1,_⟩:=hob; rw [← hdr,h2] at k1; cases k1
   | dead=>simp [mine] at hm
  ·rw [hother _ hdr]; exact h2
 ·have hne : i ≠ b:=by
   rintro rfl
   exact S.notLate hr ⟨ob,hb⟩
  rw [AH.get_set_other h _ hne]
  exact S.late b ob hb
/-- An object that is no row of cells, turned. -/
theorem Sim.setObj (S : Sim G P w0 ρ D h w) {i : Nat} {o o1 : AO} {r : RB} {x : Obj} (hi : h.get i = some o) (hr : ρ i = some r) (hm : mine o = true) (hm1 : mine o1 = true) (hc : isC o = false) (hc1 : isC o1 = false)
  (ho : ObjR G P w0.heap.size ρ { w with heap:=w.heap.setIfInBounds r.blk x } r o1) : Sim G P w0 ρ D (h.set i o1) { w with heap:=w.heap.setIfInBounds r.blk x }:=by
 obtain ⟨r0,hr0,hob⟩:=S.objAt hr hi (by rintro rfl; simp [mine] at hm)
 rw [hr] at hr0
 cases hr0
 have hge:=hob.blk_ge hm
 have hother : ∀ k,k ≠ r.blk→(w.heap.setIfInBounds r.blk x)[k]? = w.heap[k]?:=fun k hk=>Array.getElem?_setIfInBounds_ne (Ne.symm hk)
 refine S.turn hi hr hm hm1 (by rw [hc,hc1]) ⟨S.below.os,S.below.tape,S.below.output,by simpa using S.below.size,fun k hk=>?_⟩ (by simp) hother ?_ ho
 ·rw [hother k (by omega)]; exact S.below.block k hk
 ·intro j oj rj hji hj hmj hrj heq hobj
  rcases S.sep j i oj o rj r hji hj hi hmj hm hrj hr with h1 | ⟨_,h2,_⟩
  ·exact absurd heq h1
  ·rw [hc] at h2; cases h2
end Go.Proofs.Ev
set_option linter.unusedVariables false
set_option linter.unusedSimpArgs false
namespace Go.Proofs.Ev
open Go Go.RowKit
variable {G : Code→Prop} {P : Program} {w0 : World} {ρ : Ren} {D : List Mk} {h : AH} {w : World}
theorem add_at (b o i : Nat) : (⟨b,o,none⟩ : Addr).add i = ⟨b,o + i,none⟩:=by unfold Addr.add; split <;> simp_all
theorem run_sz {t : TypeId} {n : Nat} (hs : szT P t = some n) (w : World) : (sizeOf t).run P w = .ok n w:=by
 unfold szT at hs
 cases hi : P.info? t with
 | none=>rw [hi] at hs; cases hs
 | some i =>
  rw [hi] at hs
  simp only [Option.map_some,Option.some.injEq] at hs
  simp [sizeOf,typeInfo,hi,hs]
theorem run_zero {t : TypeId} {z : Value} (hs : zeroT P t = some z) (w : World) : (zeroValue t).run P w = .ok z w:=by
 unfold zeroT at hs
 cases hi : P.info? t with
 | none=>rw [hi] at hs; cases hs
 | some i =>
  rw [hi] at hs
  simp only [Option.bind_some] at hs
  simp [zeroValue,typeInfo,hi,hs]
theorem run_bytesT {t : TypeId} {n : Nat} (hs : bytesT P t = some n) (w : World) : ∃ i,(typeInfo t).run P w = .ok i w ∧ i.bytes = n:=by
 unfold bytesT at hs
 cases hi : P.info? t with
 | none=>rw [hi] at hs; cases hs
 | some i =>
  rw [hi] at hs
  simp only [Option.map_some,Option.some.injEq] at hs
  exact ⟨i,by simp [typeInfo,hi],hs⟩
theorem run_und {t : TypeId} {d : TypeDesc} (hs : P.underlying t = some d) (w : World) : (underlying t).run P w = .ok d w:=by simp [underlying,hs]
theorem run_isAggT {t : TypeId} {b : Bool} (hs : isAggT P t = some b) (w : World) : (isAgg t).run P w = .ok b w:=by
 unfold isAggT at hs
 cases hi : P.underlying t with
 | none=>rw [hi] at hs; cases hs
 | some d =>
  rw [hi] at hs
  cases d <;> simp_all [isAgg,underlying]
/-- Cells in a row, read. -/
theorem row_sim (S : Sim G P w0 ρ D h w) {b o n : Nat} {cs : List Value} {r0 : RB} (hr0 : ρ b = some r0) (hr : h.row b o n = some cs) :
  ∃ r,ρ b = some r ∧ ∃ cs' : List Value,LsR ρ cs cs' ∧ cs'.length = n ∧ ∀ (j : Nat) (v : Value),cs'[j]? = some v→w.cell? ⟨r.blk,r.base + o + j,none⟩ = some v:=by
 unfold AH.row at hr
 split at hr
 ·rename_i c e own hb
  split at hr
  ·rename_i hle
   cases hr
   obtain ⟨r,hρ,hc⟩:=S.cells hr0 hb
   obtain ⟨c',e',fz,h1,h2,h3,h4⟩:=hc.heap
   have hn:=hc.n
   have hle':=hc.le
   refine ⟨r,hρ,(c'.toList.drop (r.base + o)).take n,?_,?_,?_⟩
   ·have hl : AsR ρ ((c.drop o).take n).toArray ((c'.toList.drop (r.base + o)).take n).toArray:=by
     refine ⟨by simp; omega,fun i v v' x y=>?_⟩
     simp only [List.getElem?_toArray,List.getElem?_take,List.getElem?_drop] at x y
     split at x
     ·rename_i hin
      rw [if_pos hin] at y
      obtain ⟨u,hu1,hu2⟩:=h3 _ _ x
      have : c'.toList[r.base + o + i]? = some u:=by
       rw [Array.getElem?_toList]
       rw [← hu1]
       congr 1
       omega
      rw [this] at y
      cases y
      exact hu2
     ·cases x
    simpa using AsR.list.1 hl
   ·simp; omega
   ·intro j v hj
    rw [List.getElem?_take] at hj
    split at hj
    ·rw [List.getElem?_drop,Array.getElem?_toList] at hj
     unfold World.cell?
     simp only [h1,Option.isSome_none,Bool.false_eq_true,if_false]
     rw [← hj]
    ·cases hj
  ·cases hr
 ·cases hr
theorem cell_sim (S : Sim G P w0 ρ D h w) {b o : Nat} {v : Value} {r0 : RB} (hr0 : ρ b = some r0) (hr : h.cell b o = some v) :
  ∃ r,ρ b = some r ∧ ∃ v',VR ρ v v' ∧ w.cell? ⟨r.blk,r.base + o,none⟩ = some v':=by
 unfold AH.cell at hr
 split at hr
 ·rename_i c e own hb
  obtain ⟨r,hρ,hc⟩:=S.cells hr0 hb
  obtain ⟨c',e',fz,h1,h2,h3,h4⟩:=hc.heap
  obtain ⟨v',a,b⟩:=h3 _ _ hr
  refine ⟨r,hρ,v',b,?_⟩
  unfold World.cell?
  simp only [h1,Option.isSome_none,Bool.false_eq_true,if_false]
  exact a
 ·cases hr
theorem loadCells_sim (S : Sim G P w0 ρ D h w) {b o n : Nat} {cs : List Value} {r0 : RB} (hr0 : ρ b = some r0) (hr : h.row b o n = some cs) :
  ∃ r,ρ b = some r ∧ ∃ cs' : List Value,LsR ρ cs cs' ∧ (loadCells ⟨r.blk,r.base + o,none⟩ n).run P w = .ok cs'.toArray w:=by
 obtain ⟨r,hρ,cs',h1,h2,h3⟩:=row_sim S hr0 hr
 refine ⟨r,hρ,cs',h1,?_⟩
 rw [← h2]
 exact run_loadCells_list (P:=P) (w:=w) ⟨r.blk,r.base + o,none⟩ cs' fun j v hj=>by rw [add_at]; exact h3 j v hj
theorem load_sim (S : Sim G P w0 ρ D h w) {t : TypeId} {v v' x : Value} (hv : VR ρ v v') (hx : pLoad P t v h = some x) :
  ∃ x',(Instr.loadAt t v').run P w = .ok x' w ∧ VR ρ x x':=by
 unfold pLoad at hx
 split at hx
 ·rename_i a
  cases hv with
  | ptr _ a' hr =>
   obtain ⟨hsp,r,hρ,rfl⟩:=hr
   split at hx
   ·rename_i n ha hs
    cases hrow : h.row a.block a.off n with
    | none=>rw [hrow] at hx; cases hx
    | some cs =>
     rw [hrow] at hx
     cases hx
     obtain ⟨r',hρ',cs',h1,h2⟩:=loadCells_sim S hρ hrow
     rw [hρ] at hρ'
     cases hρ'
     have hl:=AsR.list.2 (show LsR ρ cs.toArray.toList cs'.toArray.toList by simpa using h1)
     refine ⟨.agg cs'.toArray,?_,.agg _ _ hl.1 hl.2⟩
     simp [Instr.loadAt,Instr.sureAddr,loadVar,run_isAggT ha,run_sz hs,h2]
   ·rename_i n ha hs
    obtain ⟨r',hρ',v',h1,h2⟩:=cell_sim S hρ hx
    rw [hρ] at hρ'
    cases hρ'
    refine ⟨v',?_,h1⟩
    simp [Instr.loadAt,Instr.sureAddr,loadVar,run_isAggT ha,h2]
   ·cases hx
 ·cases hx
/-! ### Stores -/
theorem VR.oneCell {v v' : Value} (hv : VR ρ v v') (ho : oneCell v = true) : v'.oneCell' = true:=by
 cases hv <;> simp_all [Ev.oneCell,Value.oneCell',Ev.skipped]
theorem set1_sim (S : Sim G P w0 ρ D h w) {b o : Nat} {c : List Value} {e : TypeId} {r : RB} {v v' : Value} (hb : h.get b = some (.cells c e true)) (hr : ρ b = some r) (ho : o < c.length) (hv : VR ρ v v') :
  Sim G P w0 ρ D (h.set b (.cells (c.set o v) e true)) (w.setCell ⟨r.blk,r.base + o,none⟩ v') ∧
  (∃ u,w.cell? ⟨r.blk,r.base + o,none⟩ = some u) ∧ w.frozen? ⟨r.blk,r.base + o,none⟩ = false:=by
 obtain ⟨r',hρ,hc⟩:=S.cells hr hb
 rw [hr] at hρ
 cases hρ
 obtain ⟨c',e',fz,h1,h2,h3,h4⟩:=hc.heap
 have hn:=hc.n
 have hle:=hc.le
 have hge:=(hc.mine rfl).1
 have hbd : r.base + o < c'.size:=by omega
 have hheap : (w.setCell ⟨r.blk,r.base + o,none⟩ v').heap[r.blk]? = some (.cells (c'.setIfInBounds (r.base + o) v') e' fz):=by
  simp [World.setCell,Array.getElem?_modify,h1]
 have hother : ∀ k,k ≠ r.blk→(w.setCell ⟨r.blk,r.base + o,none⟩ v').heap[k]? = w.heap[k]?:=fun k hk=>Below.heap_setCell w ⟨r.blk,r.base + o,none⟩ v' k hk
 refine ⟨?_,?_,?_⟩
 ·refine S.turn hb hr rfl rfl rfl (S.below.setCell (p:=⟨r.blk,r.base + o,none⟩) hge v') (by simp) hother ?_ ?_
  ·intro j oj rj hji hj hmj hrj heq hobj
   rcases S.sep j b oj _ rj r hji hj hb hmj rfl hrj hr with k1 | ⟨k1,_,k2⟩
   ·exact absurd heq k1
   ·cases oj with
    | cells cj ej ownj =>
     obtain ⟨cj',ej',fzj,q1,q2,q3,q4⟩:=CellsR.heap hobj
     rw [heq,h1] at q1
     cases q1
     refine ⟨CellsR.n hobj,CellsR.le hobj,⟨_,_,_,by rw [heq]; exact hheap,by simpa using q2,fun k x hx=>?_,by simpa using q4⟩,CellsR.mine hobj,CellsR.ext hobj,CellsR.flat hobj⟩
     obtain ⟨x',y1,y2⟩:=q3 k x hx
     refine ⟨x',?_,y2⟩
     have hk : k < cj.length:=(List.getElem?_eq_some_iff.1 hx).1
     have hnj:=CellsR.n hobj
     have hlj:=CellsR.le hobj
     rw [Array.getElem?_setIfInBounds_ne (by omega)]
     exact y1
    | _=>simp [isC] at k1
  ·refine ⟨by simpa using hn,hle,⟨_,_,_,hheap,by simpa using h2,fun k x hx=>?_,by simpa using h4⟩,hc.mine,hc.ext,hc.flat⟩
   rw [List.getElem?_set] at hx
   by_cases hok : o = k
   ·subst hok
    rw [if_pos rfl,if_pos ho] at hx
    cases hx
    exact ⟨v',by rw [Array.getElem?_setIfInBounds_self_of_lt hbd],hv⟩
   ·rw [if_neg hok] at hx
    obtain ⟨x',y1,y2⟩:=h3 k x hx
    exact ⟨x',by rw [Array.getElem?_setIfInBounds_ne (by omega)]; exact y1,y2⟩
 ·obtain ⟨u,hu,_⟩:=h3 o c[o] (by simp [ho])
  exact ⟨u,by unfold World.cell?; simp only [h1,Option.isSome_none,Bool.false_eq_true,if_false]; exact hu⟩
 ·have:=h4 rfl
  have : ¬ (fz.1 ≤ r.base + o ∧ r.base + o < fz.2):=by omega
  unfold World.frozen?
  simp only [h1]
  simpa using this
theorem put_cons {b o : Nat} {v : Value} {vs : List Value} {h2 : AH} (hp : h.put b o (v :: vs) = some h2) :
  ∃ c e,h.get b = some (.cells c e true) ∧ o < c.length ∧ (h.set b (.cells (c.set o v) e true)).put b (o + 1) vs = some h2:=by
 unfold AH.put at hp
 split at hp
 ·rename_i c e hb
  split at hp
  ·rename_i hle
   simp only [List.length_cons] at hle
   refine ⟨c,e,hb,by omega,?_⟩
   cases hp
   unfold AH.put
   rw [AH.get_set_same h _ _ hb]
   simp only [List.length_set]
   rw [if_pos (by omega)]
   have hset : ∀ x y,(h.set b x).set b y = h.set b y:=by
    intro x y
    have hlt:=AH.get_lt hb
    unfold AH.set
    simp [hlt]
   rw [hset]
   congr 3
   unfold splice
   simp only [List.length_cons]
   refine List.ext_getElem? fun k=>?_
   have ho : o < c.length:=by omega
   simp only [List.getElem?_append,List.length_append,List.length_take,List.length_cons,List.length_set,List.getElem?_take,List.getElem?_drop,List.getElem?_set]
   by_cases k1 : k < o
   ·simp [k1,show k < o + 1 by omega,show min o c.length = o by omega,show min (o+1) c.length = o + 1 by omega,show ¬ o = k by omega,show k < o + 1 + vs.length by omega,show k < o + (vs.length + 1) by omega]
   ·by_cases k2 : k = o
    ·subst k2
     simp [show min k c.length = k by omega,show min (k+1) c.length = k + 1 by omega,ho,show k < k + 1 + vs.length by omega]
    ·by_cases k3 : k < o + 1 + vs.length
     ·simp [show min o c.length = o by omega,show min (o+1) c.length = o + 1 by omega,k1,show ¬ k < o + 1 by omega,k3,show k < o + (vs.length + 1) by omega]
      rw [show k - o = (k - (o + 1)) + 1 by omega]
      simp
     ·simp [show min o c.length = o by omega,show min (o+1) c.length = o + 1 by omega,k1,show ¬ k < o + 1 by omega,k3,show ¬ k < o + (vs.length + 1) by omega]
      rw [if_neg (by omega)]
      congr 1
      omega
  ·cases hp
 ·cases hp
theorem put_nil {b o : Nat} {h2 : AH} (hp : h.put b o [] = some h2) : ∀ i,h2.get i = h.get i:=by
 unfold AH.put at hp
 split at hp
 ·rename_i c e hb
  split at hp
  ·cases hp
   intro i
   by_cases hi : b = i
   ·subst hi
    rw [AH.get_set_same h _ _ hb,hb]
    simp [splice]
   ·rw [AH.get_set_other h _ hi]
  ·cases hp
 ·cases hp
theorem AH.put_n {b o : Nat} {vs : List Value} {h2 : AH} (hp : h.put b o vs = some h2) : h2.n = h.n:=by
 unfold AH.put at hp
 split at hp
 ·split at hp
  ·cases hp; simp
  ·cases hp
 ·cases hp
/-- Memory that reads alike. -/
theorem Sim.alike (S : Sim G P w0 ρ D h w) {h2 : AH} (hn : h2.n = h.n) (hg : ∀ i,h2.get i = h.get i) : Sim G P w0 ρ D h2 w :=
 ⟨S.below,fun i r hr=>by rw [hn]; exact S.dom i r hr,fun i o hi hd hl=>S.obj i o (by rw [← hg]; exact hi) hd hl,
  fun i j oi oj ri rj hij hi hj=>S.sep i j oi oj ri rj hij (by rw [← hg]; exact hi) (by rw [← hg]; exact hj),S.defs,S.nodup,fun b o hb=>by rw [hg]; exact S.late b o hb⟩
theorem put_sim : ∀ (vs vs' : List Value) {b o : Nat} {r : RB} {h h2 : AH} {w : World} (S : Sim G P w0 ρ D h w) (hp : h.put b o vs = some h2) (hr : ρ b = some r) (hv : LsR ρ vs vs') (h1 : vs.all oneCell = true) (i : Nat) (base : Nat),
  r.base + o = base + i→∃ w2,(storeCells ⟨r.blk,base,none⟩ vs' i).run P w = .ok () w2 ∧ Sim G P w0 ρ D h2 w2:=by
 intro vs
 induction vs with
 | nil =>
  intro vs' b o r h h2 w S hp hr hv h1 i base hb
  cases hv
  exact ⟨w,by simp [storeCells],S.alike (AH.put_n hp) (put_nil hp)⟩
 | cons v vs ih =>
  intro vs' b o r h h2 w S hp hr hv h1 i base hb
  cases hv with
  | cons hx hxs =>
   rename_i y ys
   simp only [List.all_cons,Bool.and_eq_true] at h1
   obtain ⟨c,e,hbk,ho,hp'⟩:=put_cons hp
   obtain ⟨S1,⟨u,hu⟩,hf⟩:=set1_sim S hbk hr ho hx
   obtain ⟨w2,hw2,S2⟩:=ih ys S1 hp' hr hxs h1.2 (i + 1) base (by omega)
   refine ⟨w2,?_,S2⟩
   simp only [storeCells,Sem.run_bind,add_at]
   rw [← hb,run_store P w _ y .plain (hx.oneCell h1.1)]
   simp only [hu,hf,Bool.false_eq_true,if_false,Result.andThen_ok]
   exact hw2
theorem store_sim (S : Sim G P w0 ρ D h w) {t : TypeId} {v v' x x' : Value} {h2 : AH} (hv : VR ρ v v') (hx : VR ρ x x') (hp : pStore P t v x h = some h2) :
  ∃ w2,(Instr.storeAt t v' x').run P w = .ok () w2 ∧ Sim G P w0 ρ D h2 w2:=by
 unfold pStore at hp
 split at hp
 ·rename_i a
  split at hp
  ·rename_i hcond
   simp only [Bool.and_eq_true,beq_iff_eq] at hcond
   have hk : kn x = true:=by
    cases x <;> simp_all [kn,Value.cells,oneCell]
   have hcs:=hx.cells hk
   cases hv with
   | ptr _ a' hr =>
    obtain ⟨hsp,r,hρ,rfl⟩:=hr
    obtain ⟨w2,hw2,S2⟩:=put_sim x.cells.toList x'.cells.toList S hp hρ (AsR.list.1 hcs) hcond.1 0 (r.base + a.off) (by omega)
    refine ⟨w2,?_,S2⟩
    have hsz:=run_sz hcond.2 w
    rw [hcs.1] at hsz
    simp [Instr.storeAt,Instr.sureAddr,storeVar,hsz,hw2]
  ·cases hp
 ·cases hp
end Go.Proofs.Ev
set_option linter.unusedVariables false
set_option linter.unusedSimpArgs false
namespace Go.Proofs.Ev
open Go Go.RowKit
variable {G : Code→Prop} {P : Program} {w0 : World} {ρ : Ren} {D : List Mk} {h : AH} {w : World}
theorem chk_some {o : Option Value} {v : Value} (hc : chk o = some v) : o = some v ∧ plain v = true:=by
 unfold chk at hc
 split at hc
 ·split at hc
  ·cases hc; exact ⟨rfl,by assumption⟩
  ·cases hc
 ·cases hc
theorem prun_bind {α β : Type} (x : Sem α) (f : α→Sem β) : prun P (x >>= f) = (prun P x).bind fun a=>prun P (f a):=by
 show prun P (x.bind f) = _
 induction x with
 | pure a=>simp [Sem.bind,prun]
 | program k ih=>simp only [Sem.bind,prun]; exact ih P
 | _=>simp [Sem.bind,prun]
@[simp] theorem prun_pure {α : Type} (a : α) : prun P (pure a : Sem α) = some a:=rfl
@[simp] theorem prun_halt {α : Type} (x : Halt) : prun P (Sem.halt x : Sem α) = none:=rfl
@[simp] theorem prun_stuck {α : Type} (x : String) : prun P (stuck x : Sem α) = none:=rfl
theorem prun_und (t : TypeId) : prun P (underlying t) = P.underlying t:=by
 unfold underlying
 rw [prun_bind]
 show ((prun P (Sem.program Sem.pure)).bind _) = _
 simp only [prun,Option.bind_some]
 cases P.underlying t <;> rfl
theorem prun_sizeOf (t : TypeId) : prun P (sizeOf t) = szT P t:=by
 unfold sizeOf typeInfo szT
 rw [prun_bind,prun_bind]
 show (((prun P (Sem.program Sem.pure)).bind _).bind _) = _
 simp only [prun,Option.bind_some]
 cases P.info? t <;> rfl
theorem prun_isAgg (t : TypeId) : prun P (isAgg t) = isAggT P t:=by
 unfold isAgg isAggT
 rw [prun_bind,prun_und]
 cases P.underlying t with
 | none=>rfl
 | some d=>cases d <;> rfl
theorem nil_sim {t : TypeId} {x y x' y' : Value} (hx : VR ρ x x') (hy : VR ρ y y') (hc : nilCmp P t x y = true) (w : World) :
  (∀ d,(Op.equalIn (d + 1) t x' y').run P w = .ok false w) ∧ (∀ op ox oy,(eqGuard op t ox oy x' y').run P w = .ok () w) ∧
  binOp .eql t x' y' = (do pure (.bool (← Op.equal t x' y'))) ∧ binOp .neq t x' y' = (do pure (.bool (!(← Op.equal t x' y')))):=by
 unfold nilCmp at hc
 split at hc
 case h_11=>cases hc
 all_goals
  cases hx <;> cases hy <;> refine ⟨fun d=>?_,fun op ox oy=>?_,rfl,rfl⟩
 all_goals first
  | (unfold eqGuard; cases op <;> simp; done)
  | (simp only [Op.equalIn,Sem.run_bind,run_und (P:=P) (by assumption),Result.andThen_ok]; rfl)
theorem bin_sim {op : BinOp} {t : TypeId} {ox oy : Operand} {x y x' y' v : Value} (hx : VR ρ x x') (hy : VR ρ y y') (hv : pBin P op t ox oy x y = some v) (w : World) :
  ∃ v',(do eqGuard op t ox oy x' y'; binOp op t x' y').run P w = .ok v' w ∧ VR ρ v v':=by
 unfold pBin at hv
 split at hv
 ·rename_i hp
  simp only [Bool.and_eq_true] at hp
  obtain ⟨h1,h2⟩:=chk_some hv
  have ex:=hx.eqP hp.1
  have ey:=hy.eqP hp.2
  subst ex; subst ey
  exact ⟨v,prun_run h1 w,VR.reflP ρ h2⟩
 ·split at hv
  ·split at hv
   ·rename_i hc
    cases hv
    obtain ⟨k1,k2,k3,k4⟩:=nil_sim hx hy hc w
    refine ⟨_,?_,.bool false⟩
    rw [Sem.run_bind,k2,Result.andThen_ok,k3,Sem.run_bind]
    have : (Op.equal t x' y').run P w = .ok false w:=k1 9999
    rw [this]
    rfl
   ·cases hv
  ·split at hv
   ·rename_i hc
    cases hv
    obtain ⟨k1,k2,k3,k4⟩:=nil_sim hx hy hc w
    refine ⟨_,?_,.bool true⟩
    rw [Sem.run_bind,k2,Result.andThen_ok,k4,Sem.run_bind]
    have : (Op.equal t x' y').run P w = .ok false w:=k1 9999
    rw [this]
    rfl
   ·cases hv
  ·cases hv
theorem un_sim {op : UnOp} {x x' v : Value} (hx : VR ρ x x') (hv : pUn P op x = some v) (w : World) : ∃ v',(Op.unary op x').run P w = .ok v' w ∧ VR ρ v v':=by
 unfold pUn at hv
 split at hv
 ·rename_i hp
  obtain ⟨h1,h2⟩:=chk_some hv
  have ex:=hx.eqP hp
  subst ex
  exact ⟨v,prun_run h1 w,VR.reflP ρ h2⟩
 ·cases hv
theorem bytesOf_nums : ∀ {cs : List Value} {bs : List UInt8},bytesOf cs = some bs→∃ xs : List Int,cs = xs.map (Value.int .u8) ∧ bs = xs.map fun n=>UInt8.ofNat n.toNat:=by
 intro cs
 induction cs with
 | nil=>intro bs hb; simp [bytesOf] at hb; subst hb; exact ⟨[],rfl,rfl⟩
 | cons c cs ih =>
  intro bs hb
  unfold bytesOf at hb
  split at hb
  ·rename_i he; cases he
  ·rename_i n r he
   cases he
   cases hr : bytesOf cs with
   | none=>rw [hr] at hb; cases hb
   | some bs' =>
    rw [hr] at hb
    cases hb
    obtain ⟨xs,h1,h2⟩:=ih hr
    exact ⟨n :: xs,by simp [h1],by simp [h2]⟩
  ·cases hb
theorem conv_sim (S : Sim G P w0 ρ D h w) {s d : TypeId} {x x' v : Value} (hx : VR ρ x x') (hv : pConv P s d x h = some v) :
  ∃ v',(convert s d x').run P w = .ok v' w ∧ VR ρ v v':=by
 unfold pConv at hv
 split at hv
 ·rename_i hp
  have ex:=hx.eqP hp
  subst ex
  split at hv
  ·cases hv
  ·rename_i n c hd
   split at hv
   ·rename_i hu
    cases hv
    cases he : elemT P s with
    | none=>rw [he] at hu; cases hu
    | some e =>
     rw [he] at hu
     simp only [Option.bind_some] at hu
     have hs : P.underlying s = some (.slice e):=by
      unfold elemT at he
      split at he
      ·cases he; assumption
      ·cases he
     exact ⟨_,run_convert_bytes_nil w s e hs hu _ _ d hd,.string _⟩
   ·cases hv
  ·obtain ⟨h1,h2⟩:=chk_some hv
   exact ⟨v,prun_run h1 w,VR.reflP ρ h2⟩
 ·split at hv
  ·rename_i a n c e he hd _
   have hs : P.underlying s = some (.slice e):=by
    unfold elemT at he
    split at he
    ·cases he; assumption
    ·cases he
   split at hv
   ·rename_i hu
    split at hv
    ·rename_i cs hcs
     cases hb : bytesOf cs with
     | none=>rw [hb] at hv; cases hv
     | some bs =>
      rw [hb] at hv
      cases hv
      obtain ⟨xs,hx1,hx2⟩:=bytesOf_nums hb
      refine ⟨.string ⟨bs.toArray⟩,?_,.string _⟩
      by_cases hn : n = 0
      ·rw [if_pos hn] at hcs
       cases hcs
       subst hn
       have hxs : xs = []:=List.map_eq_nil_iff.1 hx1.symm
       subst hxs
       simp at hx2
       subst hx2
       cases hx with
       | slice0=>rw [run_convert_bytes_string w s d e _ _ _ hs hu hd]; simp [Conv.bytesToString,loadCells,loadCellsFrom]; rfl
       | slice=>rw [run_convert_bytes_string w s d e _ _ _ hs hu hd]; simp [Conv.bytesToString,loadCells,loadCellsFrom]; rfl
      ·rw [if_neg hn] at hcs
       cases hx with
       | slice0=>exact absurd rfl hn
       | slice _ a' _ _ c' r hr h1 h2 =>
        obtain ⟨hsp,r2,hρ2,rfl⟩:=hr
        obtain ⟨r',hρ',cs',k1,k2,k3⟩:=row_sim S hρ2 hcs
        rw [hρ2] at hρ'
        cases hρ'
        have hpl : cs.all plain0 = true:=by rw [hx1]; simp [plain0]
        have:=k1.eq0 hpl
        subst this
        have hlen : xs.length = n:=by rw [← k2,hx1]; simp
        have:=run_convert_bytes_arg (P:=P) w s e hs hu r2.blk (r2.base + a.off) n c' xs hlen (fun i hi=>by
         refine k3 i _ ?_
         rw [hx1]
         simp [List.getElem?_eq_getElem (show i < xs.length by omega),List.getD]) d hd
        rw [this]
        simp [strOfNums,hx2]
    ·cases hv
   ·cases hv
  ·cases hv
theorem part_sim {cs cs' : Array Value} {t : TypeId} {o : Nat} {v : Value} (hc : AsR ρ cs cs') (hv : prun P (part t cs o) = some v) (w : World) :
  ∃ v',(part t cs' o).run P w = .ok v' w ∧ VR ρ v v':=by
 unfold part at hv
 rw [prun_bind,prun_isAgg] at hv
 cases ha : isAggT P t with
 | none=>rw [ha] at hv; cases hv
 | some b =>
  rw [ha] at hv
  simp only [Option.bind_some] at hv
  cases b with
  | true =>
   simp only [if_true] at hv
   rw [prun_bind,prun_sizeOf] at hv
   cases hs : szT P t with
   | none=>rw [hs] at hv; cases hv
   | some n =>
    rw [hs] at hv
    simp only [Option.bind_some,prun_pure,Option.some.injEq] at hv
    subst hv
    refine ⟨.agg (cs'.extract o (o + n)),by simp [part,run_isAggT ha,run_sz hs],.agg _ _ (by simp [hc.1]) fun i v v' h1 h2=>?_⟩
    rw [Array.getElem?_extract] at h1 h2
    split at h1
    ·split at h2
     ·exact hc.2 _ _ _ h1 h2
     ·cases h2
    ·cases h1
  | false =>
   simp only [Bool.false_eq_true,if_false] at hv
   cases hg : cs[o]? with
   | none=>rw [hg] at hv; cases hv
   | some u =>
    rw [hg] at hv
    simp only [prun_pure,Option.some.injEq] at hv
    subst hv
    obtain ⟨u',h1,h2⟩:=hc.get hg
    exact ⟨u',by simp [part,run_isAggT ha,h1],h2⟩
theorem field_sim {t : TypeId} {x x' v : Value} {f : Nat} (hx : VR ρ x x') (hv : pField P t x f = some v) (w : World) :
  ∃ v',(Instr.field t x' f).run P w = .ok v' w ∧ VR ρ v v':=by
 unfold pField at hv
 split at hv
 ·rename_i cs
  cases hx with
  | agg _ cs' hs hp =>
   unfold Instr.field at hv
   rw [prun_bind,prun_und] at hv
   cases hu : P.underlying t with
   | none=>rw [hu] at hv; cases hv
   | some d =>
    rw [hu] at hv
    simp only [Option.bind_some] at hv
    cases d with
    | struct fs =>
     simp only at hv
     cases hf : fs[f]? with
     | none=>rw [hf] at hv; cases hv
     | some fd =>
      rw [hf] at hv
      simp only [asAgg,prun_bind,prun_pure,Option.bind_some] at hv
      obtain ⟨v',h1,h2⟩:=part_sim ⟨hs,hp⟩ hv w
      exact ⟨v',by simp [Instr.field,run_und hu,hf,asAgg,h1],h2⟩
    | _=>cases hv
 ·cases hv
theorem index_sim {t : TypeId} {x x' i i' v : Value} (hx : VR ρ x x') (hi : VR ρ i i') (hv : pIndex P t x i = some v) (w : World) :
  ∃ v',(Instr.index t x' i').run P w = .ok v' w ∧ VR ρ v v':=by
 unfold pIndex at hv
 split at hv
 ·rename_i n s hu
  cases hx
  cases hi
  rename_i k s
  split at hv
  ·rename_i h0
   cases hb : s[n.toNat]? with
   | none=>rw [hb] at hv; cases hv
   | some b =>
    rw [hb] at hv
    cases hv
    exact ⟨_,by simp [Instr.index,asIntOf,run_und hu,h0,hb],.int _ _⟩
  ·cases hv
 ·rename_i k n cs len el hu
  cases hi
  cases hx with
  | agg _ cs' hs hp =>
   split at hv
   ·rename_i hin
    split at hv
    ·rename_i sz hz
     obtain ⟨v',h1,h2⟩:=part_sim ⟨hs,hp⟩ hv w
     exact ⟨v',by simp [Instr.index,asIntOf,run_und hu,hin,run_sz hz,h1],h2⟩
    ·cases hv
   ·cases hv
 ·cases hv
theorem indexAddr_sim {t : TypeId} {x x' i i' v : Value} (hx : VR ρ x x') (hi : VR ρ i i') (hv : pIndexAddr P t x i = some v) (w : World) :
  ∃ v',(Instr.indexAt t x' i').run P w = .ok v' w ∧ VR ρ v v':=by
 unfold pIndexAddr at hv
 split at hv
 ·rename_i k n a m c e hu
  cases hi
  split at hv
  ·rename_i sz hz
   split at hv
   ·rename_i hin
    cases hv
    cases hx with
    | slice0=>omega
    | slice _ a' _ _ c' r hr h1 h2 =>
     obtain ⟨hsp,r2,hρ2,rfl⟩:=hr
     refine ⟨.pointer (some ⟨r2.blk,r2.base + (a.off + n.toNat * sz),none⟩),?_,.ptr _ _ ⟨rfl,r2,hρ2,rfl⟩⟩
     simp [Instr.indexAt,asIntOf,run_und hu,hin,run_sz hz,add_at,Nat.add_assoc]
   ·cases hv
  ·cases hv
 ·rename_i k n a m e hu
  cases hi
  split at hv
  ·rename_i sz hz
   split at hv
   ·rename_i hin
    cases hv
    cases hx with
    | ptr _ a' hr =>
     obtain ⟨hsp,r2,hρ2,rfl⟩:=hr
     refine ⟨.pointer (some ⟨r2.blk,r2.base + (a.off + n.toNat * sz),none⟩),?_,.ptr _ _ ⟨rfl,r2,hρ2,rfl⟩⟩
     simp [Instr.indexAt,asIntOf,run_und hu,hin,run_sz hz,add_at,Nat.add_assoc,Instr.sureAddr]
   ·cases hv
  ·cases hv
 ·cases hv
theorem fieldAddr_sim {t : TypeId} {x x' v : Value} {f : Nat} (hx : VR ρ x x') (hv : pFieldAddr P t x f = some v) (w : World) :
  ∃ v',(Instr.fieldAt t x' f).run P w = .ok v' w ∧ VR ρ v v':=by
 unfold pFieldAddr at hv
 split at hv
 ·rename_i fs a hu
  split at hv
  ·rename_i fd hf
   split at hv
   ·rename_i k hz
    cases hv
    cases hx with
    | ptr _ a' hr =>
     obtain ⟨hsp,r2,hρ2,rfl⟩:=hr
     refine ⟨.pointer (some ⟨r2.blk,r2.base + (a.off + fd.offset),none⟩),?_,.ptr _ _ ⟨rfl,r2,hρ2,rfl⟩⟩
     simp [Instr.fieldAt,run_und hu,hf,Instr.sureAddr,fieldPlace,run_sz hz,add_at,Nat.add_assoc]
   ·cases hv
  ·cases hv
 ·cases hv
end Go.Proofs.Ev
set_option linter.unusedVariables false
set_option linter.unusedSimpArgs false
namespace Go.Proofs.Ev
open Go Go.RowKit
variable {G : Code→Prop} {P : Program} {w0 : World} {ρ : Ren} {D : List Mk} {h : AH} {w : World}
inductive OR (ρ : Ren) : Option Value→Option Value→Prop
 | none : OR ρ none none
 | some {v v' : Value} : VR ρ v v'→OR ρ (some v) (some v')
theorem intOr_OR {d d' : Int} {o o' : Option Value} (hr : OR ρ o o') {n : Int} (hi : intOr d o = some n) : (o = none ∧ o' = none ∧ n = d) ∨ ∃ k,o = some (.int k n) ∧ o' = some (.int k n):=by
 cases hr with
 | none=>simp [intOr] at hi; exact .inl ⟨rfl,rfl,hi.symm⟩
 | some hv =>
  unfold intOr at hi
  split at hi
  ·rename_i he; cases he
  ·rename_i k m he; cases he; cases hi; cases hv; exact .inr ⟨k,rfl,rfl⟩
  ·cases hi
theorem sliceBound_run {k : IntKind} {n : Int} {y : Nat} (c : BoundsCode) (h0 : 0 ≤ n) (h1 : n ≤ y) (w : World) : (Instr.sliceBound (.int k n) y c).run P w = .ok n.toNat w:=by
 simp [Instr.sliceBound,asIntOf,h0,h1]
theorem sliceBounds_run {isS : Bool} {n c c' : Nat} {lo hi mx lo' hi' mx' : Option Value} {l u m : Int} (r1 : OR ρ lo lo') (r2 : OR ρ hi hi') (r3 : OR ρ mx mx')
  (hl : intOr 0 lo = some l) (hu : intOr n hi = some u) (hm : intOr c mx = some m) (h0 : 0 ≤ l) (h1 : l ≤ u) (h2 : u ≤ m) (h3 : m ≤ c) (h4 : c ≤ c') (h5 : mx.isNone ∨ hi.isSome) (w : World) :
  (Instr.sliceBounds isS n c' lo' hi' mx').run P w = .ok (l.toNat,u.toNat,if mx.isSome then m.toNat else c') w:=by
 have b1:=intOr_OR (d':=0) r1 hl
 have b2:=intOr_OR (d':=0) r2 hu
 have b3:=intOr_OR (d':=0) r3 hm
 rcases b1 with ⟨rfl,rfl,rfl⟩ | ⟨k1,rfl,rfl⟩ <;> rcases b2 with ⟨rfl,rfl,rfl⟩ | ⟨k2,rfl,rfl⟩ <;> rcases b3 with ⟨rfl,rfl,rfl⟩ | ⟨k3,rfl,rfl⟩ <;>
  (try (simp at h5; done)) <;>
  simp only [Instr.sliceBounds,Sem.run_bind,Sem.run_pure,Result.andThen_ok,Option.isSome_none,Option.isSome_some,Bool.false_eq_true,if_false,if_true] <;>
  (repeat (rw [sliceBound_run _ (by omega) (by omega)]; simp only [Result.andThen_ok,Sem.run_pure])) <;> simp [Int.toNat_natCast]
theorem slice_sim (S : Sim G P w0 ρ D h w) {t : TypeId} {x x' v : Value} {lo hi mx lo' hi' mx' : Option Value} (hx : VR ρ x x') (r1 : OR ρ lo lo') (r2 : OR ρ hi hi') (r3 : OR ρ mx mx')
  (hv : pSlice P t x lo hi mx h = some v) : ∃ v',(Instr.sliceAt t x' lo' hi' mx').run P w = .ok v' w ∧ VR ρ v v':=by
 unfold pSlice at hv
 split at hv
 ·rename_i s
  cases hx
  split at hv
  ·rename_i l u ht hl hu
   split at hv
   ·rename_i hc
    cases hv
    cases r3
    have:=sliceBounds_run (P:=P) (ρ:=ρ) (isS:=false) (n:=s.size) (c:=s.size) (c':=s.size) (mx:=none) (m:=s.size) r1 r2 .none hl hu rfl hc.1 hc.2.1 hc.2.2 (Int.le_refl _) (Nat.le_refl _) (.inl rfl) w
    exact ⟨_,by simp [Instr.sliceAt,Instr.slice,run_und ht,this],.string _⟩
   ·cases hv
  ·cases hv
 ·rename_i a n c
  split at hv
  ·rename_i size l u m hs hl hu hm
   split at hv
   ·rename_i hc
    obtain ⟨c0,c1,c2,c3,c4,c5⟩:=hc
    cases hv
    cases he : elemT P t with
    | none=>rw [he] at hs; cases hs
    | some e =>
     rw [he] at hs
     simp only [Option.bind_some] at hs
     have ht : P.underlying t = some (.slice e):=by
      unfold elemT at he
      split at he
      ·cases he; assumption
      ·cases he
     have hm0 : mx.isSome = false→m = c:=by
      intro h0
      cases mx with
      | none=>simp [intOr] at hm; exact hm.symm
      | some=>cases h0
     cases hx with
     | nilSlice =>
      have:=sliceBounds_run (P:=P) (ρ:=ρ) (isS:=true) (c':=c) r1 r2 r3 hl hu hm c0 c1 c2 c3 (Nat.le_refl _) c4 w
      refine ⟨_,by simp [Instr.sliceAt,Instr.slice,run_und ht,this,run_sz hs]; rfl,?_⟩
      have e1 : (u - l).toNat = u.toNat - l.toNat:=by omega
      have e2 : (m - l).toNat = (if mx.isSome = true then m.toNat else c) - l.toNat:=by
       split
       ·omega
       ·rename_i h0; have:=hm0 (by simpa using h0); omega
      rw [e1,e2]
      simp only [Option.map_none,ite_self]
      exact .nilSlice _ _
     | slice0 a a' =>
      have:=sliceBounds_run (P:=P) (ρ:=ρ) (isS:=true) (c':=0) r1 r2 r3 hl hu hm c0 c1 c2 c3 (Nat.le_refl _) c4 w
      refine ⟨_,by simp [Instr.sliceAt,Instr.slice,run_und ht,this,run_sz hs]; rfl,?_⟩
      obtain rfl : l = 0:=by omega
      obtain rfl : u = 0:=by omega
      obtain rfl : m = 0:=by omega
      simp
      exact .slice0 _ _
     | slice a a' _ _ c' r hr h1 h2 =>
      have hcc : c ≤ c':=by rcases h2 with rfl | h2 <;> omega
      have hrun:=sliceBounds_run (P:=P) (ρ:=ρ) (isS:=true) (c':=c') r1 r2 r3 hl hu hm c0 c1 c2 c3 hcc c4 w
      refine ⟨_,by simp [Instr.sliceAt,Instr.slice,run_und ht,hrun,run_sz hs]; rfl,?_⟩
      generalize hM : (if mx.isSome = true then m.toNat else c') = M
      have e1 : (u - l).toNat = u.toNat - l.toNat:=by omega
      by_cases hMl : M = l.toNat
      ·rw [if_pos hMl]
       have z1 : (u - l).toNat = 0:=by
        split at hM
        ·omega
        ·rename_i h0; have:=hm0 (by simpa using h0); omega
       have z2 : (m - l).toNat = 0:=by
        split at hM
        ·omega
        ·rename_i h0; have:=hm0 (by simpa using h0); omega
       rw [← e1,z1,z2,hMl]
       simp only [Option.map_some,Nat.sub_self]
       exact .slice0 _ _
      ·rw [if_neg hMl,← e1]
       obtain ⟨hsp,r2',hρ2,rfl⟩:=hr
       rw [h1] at hρ2
       cases hρ2
       simp only [Option.map_some,add_at]
       refine .slice _ _ _ _ _ r ⟨rfl,r,h1,by simp [Nat.add_assoc]⟩ h1 ?_
       split at hM
       ·left; omega
       ·rename_i h0
        have hmc:=hm0 (by simpa using h0)
        rcases h2 with rfl | ⟨k1,k0,k2,k3⟩
        ·left; omega
        ·by_cases hl0 : l = 0
         ·subst hl0
          right
          simp only [Int.toNat_zero,Nat.zero_mul,Nat.add_zero,Int.sub_zero]
          subst hmc
          simp only [Int.toNat_natCast]
          exact ⟨by omega,k0,k2,by rw [← hM]; simpa using k3⟩
         ·rcases c5 with c5 | c5 | c5
          ·exact absurd c5 hl0
          ·exact absurd c5 h0
          ·unfold szOk at c5
           simp only at c5
           split at c5
           ·rename_i cc ee own hg
            obtain ⟨rr,q1,q2⟩:=S.cells h1 hg
            rw [h1] at q1
            cases q1
            cases own with
            | false =>
             have hx:=(q2.ext rfl).2
             left
             rw [hx] at k3
             have : c' = c:=by
              have : c' * r.sz ≤ c * r.sz:=by omega
              have:=Nat.le_of_mul_le_mul_right this (by omega)
              omega
             omega
            | true =>
             have hz:=(q2.mine rfl).2
             simp only [Bool.not_true,Bool.false_or,beq_iff_eq] at c5
             rw [hz] at c5
             cases c5
             right
             have hlc : l.toNat ≤ c:=by omega
             have f1 : (m - l).toNat = c - l.toNat:=by omega
             have f2 : M - l.toNat = c' - l.toNat:=by omega
             have g1 : l.toNat * r.sz + (c - l.toNat) * r.sz = c * r.sz:=by rw [← Nat.add_mul]; congr 1; omega
             have g2 : l.toNat * r.sz + (c' - l.toNat) * r.sz = c' * r.sz:=by rw [← Nat.add_mul]; congr 1; omega
             rw [f1,f2]
             dsimp only
             exact ⟨by omega,k0,by omega,by omega⟩
           ·cases c5
   ·cases hv
  ·cases hv
 ·cases hv
end Go.Proofs.Ev
set_option linter.unusedVariables false
set_option linter.unusedSimpArgs false
namespace Go.Proofs.Ev
open Go Go.RowKit
variable {G : Code→Prop} {P : Program} {w0 : World} {ρ : Ren} {D : List Mk} {h : AH} {w : World}
/-! ### Structs, arrays put together -/
inductive PsR (ρ : Ren) : List (Nat × Value)→List (Nat × Value)→Prop
 | nil : PsR ρ [] []
 | cons {i : Nat} {v v' : Value} {xs ys : List (Nat × Value)} : VR ρ v v'→PsR ρ xs ys→PsR ρ ((i,v) :: xs) ((i,v') :: ys)
theorem write_sim (off : Nat) : ∀ (l l' : List Value) (n : Nat) {a a' : Array Value},LsR ρ l l'→AsR ρ a a' →
  AsR ρ ((l.zipIdx n).foldl (fun cs (x : Value × Nat)=>cs.setIfInBounds (off + x.2) x.1) a) ((l'.zipIdx n).foldl (fun cs (x : Value × Nat)=>cs.setIfInBounds (off + x.2) x.1) a'):=by
 intro l
 induction l with
 | nil=>intro l' n a a' hl ha; cases hl; exact ha
 | cons x xs ih =>
  intro l' n a a' hl ha
  cases hl with
  | cons hx hxs=>exact ih _ (n + 1) hxs (ha.set _ hx)
theorem fill_sim (place : Nat→Option (Nat × Nat)) : ∀ {l l' : List (Nat × Value)} {a a' b : Array Value},PsR ρ l l'→l.all (fun x=>kn x.2) = true→AsR ρ a a'→Instr.fill place a l = some b →
  ∃ b',Instr.fill place a' l' = some b' ∧ AsR ρ b b':=by
 intro l
 induction l with
 | nil=>intro l' a a' b hl hk ha hb; cases hl; simp [Instr.fill] at hb; subst hb; exact ⟨a',rfl,ha⟩
 | cons x xs ih =>
  intro l' a a' b hl hk ha hb
  cases hl with
  | cons hv hxs =>
   rename_i i v v' ys
   simp only [List.all_cons,Bool.and_eq_true] at hk
   have hc:=hv.cells hk.1
   unfold Instr.fill at hb ⊢
   cases hp : place i with
   | none=>rw [hp] at hb; cases hb
   | some q =>
    obtain ⟨off,size⟩:=q
    rw [hp] at hb
    simp only at hb ⊢
    rw [← hc.1,← ha.1]
    split at hb
    ·cases hb
    ·rename_i hn
     rw [if_neg hn]
     refine ih hxs hk.2 ?_ hb
     have:=write_sim (ρ:=ρ) off v.cells.toList v'.cells.toList 0 (AsR.list.1 hc) ha
     rw [← Array.foldl_toList,← Array.foldl_toList]
     simpa using this
theorem zero_refl {z : Value} (hp : plain z = true) : AsR ρ z.cells z.cells:=by
 refine (VR.reflP ρ hp).cells ?_
 cases z <;> simp_all [plain,plain0,kn]
theorem build_sim {t : TypeId} {ps ps' : Array (Nat × Value)} {v : Value} (hps : PsR ρ ps.toList ps'.toList) (hv : pBuild P t ps = some v) (w : World) :
  ∃ v',(Instr.build t ps').run P w = .ok v' w ∧ VR ρ v v':=by
 unfold pBuild at hv
 cases hzt : zeroT P t with
 | none=>rw [hzt] at hv; cases hv
 | some z =>
  rw [hzt] at hv
  simp only at hv
  split at hv
  ·rename_i hk
   simp only [Bool.and_eq_true] at hk
   obtain ⟨hk,hzp⟩:=hk
   unfold Instr.build at hv
   rw [prun_bind] at hv
   have hzv : prun P (zeroValue t) = zeroT P t:=by
    unfold zeroValue typeInfo zeroT
    rw [prun_bind,prun_bind]
    show (((prun P (Sem.program Sem.pure)).bind _).bind _) = _
    simp only [prun,Option.bind_some]
    cases P.info? t with
    | none=>rfl
    | some i=>cases hz : i.zero <;> simp [hz] <;> rfl
   rw [hzv] at hv
   rw [hzt] at hv
   ·have hzr:=zero_refl (ρ:=ρ) hzp
    simp only [Option.bind_some,prun_bind,prun_und] at hv
    cases hu : P.underlying t with
    | none=>rw [hu] at hv; cases hv
    | some d =>
     rw [hu] at hv
     simp only [Option.bind_some] at hv
     cases d with
     | struct fs =>
      simp only [prun_bind] at hv
      cases hm : prun P (fs.mapM fun f=>do pure (f.offset,← sizeOf f.type)) with
      | none=>rw [hm] at hv; cases hv
      | some places =>
       rw [hm] at hv
       simp only [Option.bind_some] at hv
       cases hf : Instr.fill (places[·]?) z.cells ps.toList with
       | none=>rw [hf] at hv; cases hv
       | some b =>
        rw [hf] at hv
        simp only [prun_pure,Option.some.injEq] at hv
        subst hv
        obtain ⟨b',h1,h2⟩:=fill_sim _ hps hk hzr hf
        have hrun:=prun_run hm w
        refine ⟨.agg b',?_,.agg _ _ h2.1 h2.2⟩
        simp only [Instr.build,Sem.run_bind,run_zero hzt,Result.andThen_ok,run_und hu]
        rw [hrun]
        simp only [Result.andThen_ok,h1,Sem.run_pure]
     | array n e =>
      simp only [prun_bind,prun_sizeOf] at hv
      cases hs : szT P e with
      | none=>rw [hs] at hv; cases hv
      | some size =>
       rw [hs] at hv
       simp only [Option.bind_some] at hv
       cases hf : Instr.fill (fun i=>some (i * size,size)) z.cells ps.toList with
       | none=>rw [hf] at hv; cases hv
       | some b =>
        rw [hf] at hv
        simp only [prun_pure,Option.some.injEq] at hv
        subst hv
        obtain ⟨b',h1,h2⟩:=fill_sim _ hps hk hzr hf
        refine ⟨.agg b',?_,.agg _ _ h2.1 h2.2⟩
        simp only [Instr.build,Sem.run_bind,run_zero hzt,Result.andThen_ok,run_und hu,run_sz hs,h1,Sem.run_pure]
     | _=>cases hv
  ·cases hv
theorem extract_sim {x x' v : Value} {i : Nat} (hx : VR ρ x x') (hv : pExtract x i = some v) (w : World) : ∃ v',(Instr.extract x' i).run P w = .ok v' w ∧ VR ρ v v':=by
 unfold pExtract at hv
 split at hv
 ·split at hv
  ·rename_i vs hk
   cases hx with
   | unk=>simp [kn] at hk
   | skipped=>simp [kn] at hk
   | tuple _ a' hs hp =>
    obtain ⟨v',h1,h2⟩:=AsR.get ⟨hs,hp⟩ hv
    exact ⟨v',by simp [Instr.extract,h1],h2⟩
  ·cases hv
 ·cases hv
theorem makeIface_sim {t : TypeId} {x x' v : Value} (hx : VR ρ x x') (hv : pMakeIface P t x = some v) (w : World) : ∃ v',(Instr.makeInterface t x').run P w = .ok v' w ∧ VR ρ v v':=by
 unfold pMakeIface at hv
 split at hv
 ·unfold Instr.makeInterface at hv
  rw [prun_bind,prun_und] at hv
  cases hu : P.underlying t with
  | none=>rw [hu] at hv; cases hv
  | some d =>
   rw [hu] at hv
   simp only [Option.bind_some] at hv
   refine ⟨.iface t x',?_,?_⟩
   ·cases d <;> first | (cases hv; done) | simp [Instr.makeInterface,run_und hu]
   ·cases d <;> first | (cases hv; done) | (cases hv; exact .iface _ _ _ hx)
 ·cases hv
theorem assert_sim {t xt : TypeId} {ok : Bool} {x x' v : Value} (hx : VR ρ x x') (hv : pAssert P x xt t ok = some v) (w : World) : ∃ v',(Instr.typeAssert x' xt t ok).run P w = .ok v' w ∧ VR ρ v v':=by
 have tup : ∀ (a a' : Value) (b : Bool),VR ρ a a'→VR ρ (.tuple #[a,.bool b]) (.tuple #[a',.bool b]):=fun a a' b ha =>
  have:=(AsR.list (ρ:=ρ) (a:=#[a,.bool b]) (a':=#[a',.bool b])).2 (.cons ha (.cons (.bool b) .nil))
  .tuple _ _ this.1 this.2
 unfold pAssert at hv
 split at hv
 ·rename_i u y
  cases hx with
  | iface _ _ y' hy =>
   split at hv
   ·cases hv
   ·rename_i d hni hd
    have hrun : ∀ ok,(Instr.typeAssert (.iface u y') xt t ok).run P w = (if u = t then .ok (if ok then .tuple #[y',.bool true] else y') w else
      (if ok then (zeroValue t).run P w |>.andThen fun z w=>.ok (.tuple #[z,.bool false]) w else (Instr.typeAssert (.iface u y') xt t ok).run P w)):=by
     intro ok
     by_cases hut : u = t
     ·cases d <;> first | (exact absurd rfl (hni _)) | simp [Instr.typeAssert,run_und hd,hut]
     ·rw [if_neg hut]
      cases ok with
      | false=>rfl
      | true=>cases d <;> first | (exact absurd rfl (hni _)) | simp [Instr.typeAssert,run_und hd,hut]
    split at hv
    ·rename_i hut
     cases hv
     refine ⟨if ok then .tuple #[y',.bool true] else y',?_,?_⟩
     ·rw [hrun,if_pos hut]
     ·cases ok
      ·exact hy
      ·exact tup _ _ _ hy
    ·rename_i hut
     split at hv
     ·rename_i hok
      split at hv
      ·rename_i z hz
       split at hv
       ·rename_i hp
        cases hv
        refine ⟨.tuple #[z,.bool false],?_,tup _ _ _ (VR.reflP ρ hp)⟩
        rw [hrun,if_neg hut,if_pos hok,run_zero hz]
        rfl
       ·cases hv
      ·cases hv
     ·cases hv
   ·cases hv
 ·cases hv
/-! ### Maps, read -/
theorem key_plain {kd : TypeDesc} {k : Value} (hk : keyOk kd k = true) : plain0 k = true:=by
 unfold keyOk at hk
 split at hk <;> first | rfl | cases hk
theorem sameNow_key {kd : TypeDesc} {k x : Value} {b : Bool} (hs : Instr.sameNow kd k x = some b) : plain0 x = true:=by
 unfold Instr.sameNow at hs
 split at hs <;> first | rfl | cases hs
theorem find_sim {kd : TypeDesc} {k : Value} : ∀ {es es' : List MapEntry} {i : Nat} {r : Option (Nat × Value)},EsR ρ es es'→findE kd k es i = some r →
  ∃ r',Instr.findNow kd k es' i = some r' ∧ ((r = none ∧ r' = none) ∨ ∃ j v v' e',r = some (j,v) ∧ r' = some (j,v') ∧ VR ρ v v' ∧ i ≤ j ∧ es'[j - i]? = some e' ∧ Instr.sameNow kd k e'.key = some true):=by
 intro es
 induction es with
 | nil=>intro es' i r he hf; cases he; simp [findE] at hf; subst hf; exact ⟨none,rfl,.inl ⟨rfl,rfl⟩⟩
 | cons e es ih =>
  intro es' i r he hf
  cases he with
  | cons hx hr =>
   rename_i e' es'
   unfold findE at hf
   cases hs : Instr.sameNow kd k e.key with
   | none=>rw [hs] at hf; cases hf
   | some b =>
    have hke:=hx.1.eq0 (sameNow_key hs)
    rw [hs] at hf
    unfold Instr.findNow
    rw [← hke,hs]
    cases b with
    | true =>
     simp only [Option.some.injEq] at hf
     subst hf
     exact ⟨_,rfl,.inr ⟨i,e.val,e'.val,e',rfl,rfl,hx.2.1,Nat.le_refl _,by simp,by rw [← hke]; exact hs⟩⟩
    | false =>
     simp only at hf
     obtain ⟨r',h1,h2⟩:=ih hr hf
     refine ⟨r',h1,?_⟩
     rcases h2 with h2 | ⟨j,v,v',e2,a,b,c,d,f,g⟩
     ·exact .inl h2
     ·refine .inr ⟨j,v,v',e2,a,b,c,by omega,?_,g⟩
      rw [show j - i = (j - (i + 1)) + 1 by omega]
      simpa using f
theorem checkKey_run {kd : TypeDesc} {kt : TypeId} {k : Value} (hu : P.underlying kt = some kd) (hk : keyOk kd k = true) (b : Bool) (w : World) : (Instr.checkKey b 10000 kt k).run P w = .ok () w:=by
 have : ∀ n,(Instr.checkKey b (n + 1) kt k).run P w = .ok () w:=by
  intro n
  unfold keyOk at hk
  split at hk <;> first
   | (cases hk; done)
   | (unfold Instr.checkKey; rw [Sem.run_bind,run_und hu]; rfl)
 exact this 9999
theorem map_of {t kt et : TypeId} (hm : mapT P t = some (kt,et)) : P.underlying t = some (.map kt et):=by
 unfold mapT at hm
 split at hm
 ·cases hm; assumption
 ·cases hm
theorem lookup_sim (S : Sim G P w0 ρ D h w) {t : TypeId} {x x' k k' v : Value} {ok : Bool} (hx : VR ρ x x') (hk : VR ρ k k') (hv : pLookup P t x k ok h = some v) :
  ∃ v',(Instr.lookup t x' k' ok).run P w = .ok v' w ∧ VR ρ v v':=by
 have tup : ∀ (a a' : Value) (b : Bool),VR ρ a a'→VR ρ (if ok then .tuple #[a,.bool b] else a) (if ok then .tuple #[a',.bool b] else a'):=fun a a' b ha=>by
  have:=(AsR.list (ρ:=ρ) (a:=#[a,.bool b]) (a':=#[a',.bool b])).2 (.cons ha (.cons (.bool b) .nil))
  cases ok
  ·exact ha
  ·exact .tuple _ _ this.1 this.2
 unfold pLookup at hv
 split at hv
 ·cases hv
 ·rename_i kt et hm
  have hmu:=map_of hm
  split at hv
  ·rename_i kd es hkd hes
   split at hv
   ·rename_i hko
    have ek:=hk.eq0 (key_plain hko)
    subst ek
    have run1 : ∀ es' : Array MapEntry,EsR ρ es es'.toList→∃ v',(Instr.findKey kt k es'.toList).run P w = .ok v' w ∧
      (∀ r,findE kd k es 0 = some r→(r = none ∧ v' = none) ∨ ∃ j a a',r = some (j,a) ∧ v' = some (j,a') ∧ VR ρ a a'):=by
     intro es' he
     cases hf : findE kd k es 0 with
     | none=>rw [hf] at hv; cases hv
     | some r =>
      obtain ⟨r',h1,h2⟩:=find_sim he hf
      refine ⟨r',by simp [Instr.findKey,run_und hkd,h1],fun r0 h0=>?_⟩
      cases h0
      rcases h2 with h2 | ⟨j,a,a',e',p,q,s,_⟩
      ·exact .inl h2
      ·exact .inr ⟨j,a,a',p,q,s⟩
    have fin : ∀ es' : Array MapEntry,EsR ρ es es'.toList→∃ r',(Instr.findKey kt k es'.toList).run P w = .ok r' w ∧
      ((∃ j a',r' = some (j,a') ∧ VR ρ v (if ok then .tuple #[a',.bool true] else a')) ∨ (r' = none ∧ ∃ z,zeroT P et = some z ∧ VR ρ v (if ok then .tuple #[z,.bool false] else z))):=by
     intro es' he
     obtain ⟨r',h1,h2⟩:=run1 es' he
     refine ⟨r',h1,?_⟩
     split at hv
     ·rename_i j a hf
      cases hv
      rcases h2 _ hf with ⟨h3,_⟩ | ⟨j',a1,a',h3,h4,h5⟩
      ·cases h3
      ·cases h3
       exact .inl ⟨_,_,h4,tup _ _ _ h5⟩
     ·rename_i z hf hz
      split at hv
      ·rename_i hp
       cases hv
       rcases h2 _ hf with ⟨_,h4⟩ | ⟨j',a1,a',h3,h4,h5⟩
       ·exact .inr ⟨h4,z,hz,tup _ _ _ (VR.reflP ρ hp)⟩
       ·cases h3
      ·cases hv
     ·cases hv
    split at hes
    ·cases hes
     cases hx
     obtain ⟨r',h1,h2⟩:=fin #[] .nil
     rcases h2 with ⟨j,a',rfl,h3⟩ | ⟨rfl,z,hz,h3⟩
     ·exact ⟨_,by simp [Instr.lookup,run_und hmu,checkKey_run hkd hko,h1],h3⟩
     ·have h1' : (Instr.findKey kt k []).run P w = .ok none w:=h1
      exact ⟨_,by cases ok <;> simp [Instr.lookup,run_und hmu,checkKey_run hkd hko,h1',run_zero hz],h3⟩
    ·rename_i r
     split at hes
     ·rename_i es0 clk hg
      cases hes
      cases hx with
      | map _ rb hρ =>
       obtain ⟨rb',hρ',hge,es',k1,k2⟩:=S.objAt hρ hg (by simp)
       rw [hρ] at hρ'
       cases hρ'
       obtain ⟨r',h1,h2⟩:=fin es' k2
       have hget : (getObj rb.blk).run P w = .ok (.map es' clk) w:=by simp [getObj,Sem.run,k1]
       rcases h2 with ⟨j,a',rfl,h3⟩ | ⟨rfl,z,hz,h3⟩
       ·exact ⟨_,by simp [Instr.lookup,run_und hmu,hget,checkKey_run hkd hko,h1],h3⟩
       ·exact ⟨_,by cases ok <;> simp [Instr.lookup,run_und hmu,hget,checkKey_run hkd hko,h1,run_zero hz],h3⟩
     ·cases hes
    ·cases hes
   ·cases hv
  ·cases hv
theorem cap_sim {ts : Array TypeId} {t : TypeId} {x x' v : Value} (hx : VR ρ x x') (hv : pCap P ts x = some v) (w : World) :
  ∃ v',(Builtin.cap_ ts t #[x']).run P w = .ok v' w ∧ VR ρ v v':=by
 unfold pCap at hv
 cases ht : (ts[0]? : Option TypeId) with
 | none=>rw [ht] at hv; simp at hv
 | some t0 =>
  rw [ht] at hv
  simp only [Option.bind_some] at hv
  split at hv
  ·cases hx; cases hv; rename_i hu; exact ⟨_,by simp [Builtin.cap_,ht,run_und hu]; rfl,.int _ _⟩
  ·cases hv
theorem len_sim (S : Sim G P w0 ρ D h w) {ts : Array TypeId} {t : TypeId} {x x' v : Value} (hx : VR ρ x x') (hv : pLen P ts x h = some v) :
  ∃ v',(Builtin.len_ ts t #[x']).run P w = .ok v' w ∧ VR ρ v v':=by
 unfold pLen at hv
 cases ht : (ts[0]? : Option TypeId) with
 | none=>rw [ht] at hv; simp at hv
 | some t0 =>
  rw [ht] at hv
  simp only [Option.bind_some] at hv
  split at hv
  ·cases hx; cases hv; rename_i hu; exact ⟨_,by simp [Builtin.len_,ht,run_und hu]; rfl,.int _ _⟩
  ·cases hv; rename_i hu; cases hx <;> exact ⟨_,by simp [Builtin.len_,ht,run_und hu]; rfl,.int _ _⟩
  ·cases hx; cases hv; rename_i hu _ _ _; exact ⟨_,by simp [Builtin.len_,ht,run_und hu]; rfl,.int _ _⟩
  ·cases hx; cases hv; rename_i hu; exact ⟨_,by simp [Builtin.len_,ht,run_und hu]; rfl,.int _ _⟩
  ·rename_i r hu
   split at hv
   ·rename_i es clk hg
    cases hv
    cases hx with
    | map _ rb hρ =>
     obtain ⟨rb',hρ',hge,es',k1,k2⟩:=S.objAt hρ hg (by simp)
     rw [hρ] at hρ'
     cases hρ'
     have hget : (getObj rb.blk).run P w = .ok (.map es' clk) w:=by simp [getObj,Sem.run,k1]
     have hl:=k2.length
     exact ⟨_,by simp [Builtin.len_,ht,run_und hu,hget]; rfl,by rw [hl]; exact .int _ _⟩
   ·cases hv
  ·cases hv
/-! ### All together -/
/-- A method that is known is not behind a nil pointer. -/
theorem nilAhead_run {t : TypeId} {v v' : Value} {name : String} {q : FuncId × Value} (he : eMeth P t v name = some q) {n : Nat} {w : World} : (nilAhead (n + 1) t v' name).run P w = .ok (some false) w:=by
 unfold eMeth at he
 split at he
 ·cases he
 rename_i i hi
 split at he
 ·cases he
 rename_i m hm
 split at he
 case isFalse=>cases he
 rename_i hp
 have hp0 : m.path = #[]:=Array.eq_empty_of_size_eq_zero hp
 have hprog : (program : Sem Program).run P w = .ok P w:=rfl
 unfold nilAhead
 simp only [Sem.run_bind,typeInfo,hprog,hi,Result.andThen_ok,Sem.run_pure,hm,hp0,followBlind]
 split at he
 ·rename_i f0 e hf hu
  simp only [hf,Sem.run_pure]
 ·cases he
 ·cases he
 ·rename_i f0 d hnp hf hu
  simp only [hf,Sem.run_bind,run_und hu,Result.andThen_ok]
  cases d with
  | pointer e=>exact absurd rfl (hnp e)
  | _=>rfl
 ·cases he
theorem nilCheck_sim {o : Oper} {x : Operand} (ho : o.op = .nilCheck x) {ev ev' : Operand→Value} (hx : VR ρ (ev x) (ev' x)) {v : Value} (hv : pNilCheck P (ev x) = some v) (w : World) :
  ∃ v',(execOp ev' o).run P w = .ok (.value v') w ∧ VR ρ v v':=by
 unfold pNilCheck at hv
 unfold execOp
 rw [ho]
 simp only
 generalize ev x = a at *
 generalize ev' x = a' at *
 split at hv
 ·cases hv; cases hx with | ptr _ a' hr=>exact ⟨_,rfl,.ptr _ _ hr⟩
 ·cases hv; cases hx with | iface _ _ y hr=>exact ⟨_,rfl,.iface _ _ _ hr⟩
 ·cases hv
  cases hx with
  | func f f' a b a' b' hf h1 h2 h3 h4=>cases hf; exact ⟨_,rfl,.func _ _ _ _ _ _ (.func _) h1 h2 h3 h4⟩
 ·cases hv
  cases hx with
  | func f f' a b a' b' hf h1 h2 h3 h4=>cases hf with | yield _ r hr=>exact ⟨_,rfl,.func _ _ _ _ _ _ (.yield _ r hr) h1 h2 h3 h4⟩
 ·cases hv
  cases hx with
  | func f f' a b a' b' hf h1 h2 h3 h4=>cases hf; exact ⟨_,rfl,.func _ _ _ _ _ _ (.methodOf _ _) h1 h2 h3 h4⟩
 ·rename_i m fs cap
  split at hv
  ·rename_i t y h0
   obtain ⟨q,hq,rfl⟩:=Option.map_eq_some_iff.1 hv
   cases hx with
   | func f f' a b a' b' hf h1 h2 h3 h4 =>
   cases hf
   have hlt : 0 < a'.size:=by rw [← h1]; exact (Array.getElem?_eq_some_iff.1 h0).1
   have h0' : a'[0]? = some a'[0]:=Array.getElem?_eq_getElem hlt
   have hv0:=h2 0 _ _ h0 h0'
   generalize a'[0] = z at hv0 h0'
   cases hv0 with
   | iface _ _ y' hy =>
   refine ⟨.func (.method m) a' b',?_,.func _ _ _ _ _ _ (.method _) h1 h2 h3 h4⟩
   simp only [h0']
   rw [Sem.run_bind,show (program : Sem Program).run P w = .ok P w from rfl]
   simp only [Result.andThen_ok]
   rw [Sem.run_bind,show P.types.size + Made.depth = (P.types.size + 99) + 1 from rfl,nilAhead_run hq]
   rfl
  ·cases hv
 ·cases hv
theorem map_AsR {ev ev' : Operand→Value} {xs : Array Operand} (hE : ∀ x ∈ xs,VR ρ (ev x) (ev' x)) : AsR ρ (xs.map ev) (xs.map ev'):=by
 refine ⟨by simp,fun i v v' h1 h2=>?_⟩
 simp only [Array.getElem?_map,Option.map_eq_some_iff] at h1 h2
 obtain ⟨x,hx,rfl⟩:=h1
 obtain ⟨y,hy,rfl⟩:=h2
 rw [hx] at hy
 cases hy
 exact hE x (Array.mem_of_getElem? hx)
theorem map_PsR {ev ev' : Operand→Value} {xs : List (Nat × Operand)} (hE : ∀ x ∈ xs.map (·.2),VR ρ (ev x) (ev' x)) : PsR ρ (xs.map fun (i,x)=>(i,ev x)) (xs.map fun (i,x)=>(i,ev' x)):=by
 induction xs with
 | nil=>exact .nil
 | cons x xs ih=>exact .cons (hE _ (by simp)) (ih fun y hy=>hE y (by simp at hy ⊢; exact .inr hy))
theorem map_OR {ev ev' : Operand→Value} {x : Option Operand} (hE : ∀ y ∈ x,VR ρ (ev y) (ev' y)) : OR ρ (x.map ev) (x.map ev'):=by
 cases x with
 | none=>exact .none
 | some y=>exact .some (hE y rfl)
theorem light_sim (S : Sim G P w0 ρ D h w) {o : Oper} {ev ev' : Operand→Value} (hE : ∀ x ∈ o.op.operands,VR ρ (ev x) (ev' x)) {v : Value} (hv : eLight P o ev h = some v) :
  ∃ v',(execOp ev' o).run P w = .ok (.value v') w ∧ VR ρ v v':=by
 obtain ⟨dst,op,type,pos,after,guard⟩:=o
 have lift : ∀ {s : Sem Value},(∃ v',s.run P w = .ok v' w ∧ VR ρ v v')→∃ v',(do pure (.value (← s)) : Sem Next).run P w = .ok (.value v') w ∧ VR ρ v v':=by
  rintro s ⟨v',h1,h2⟩
  exact ⟨v',by simp [h1],h2⟩
 cases op <;> simp only [eLight] at hv <;> (try (cases hv; done))
 case move x=>cases hv; exact ⟨_,rfl,hE x (by simp [Op.operands])⟩
 case assign x=>cases hv; exact ⟨_,rfl,hE x (by simp [Op.operands])⟩
 case pick c a b =>
  have hc:=hE c (by simp [Op.operands])
  have ha:=hE a (by simp [Op.operands])
  have hb:=hE b (by simp [Op.operands])
  simp only [execOp]
  generalize ev c = vc at *
  generalize ev' c = vc' at *
  split at hv
  ·cases hv; cases hc; exact ⟨_,by simp [asBool],ha⟩
  ·cases hv; cases hc; exact ⟨_,by simp [asBool],hb⟩
  ·cases hv
 case load t a=>exact lift (load_sim S (hE a (by simp [Op.operands])) hv)
 case nilCheck x=>exact nilCheck_sim (x:=x) rfl (hE x (by simp [Op.operands])) hv w
 case binOp op t x y ty=>exact lift (bin_sim (hE x (by simp [Op.operands])) (hE y (by simp [Op.operands])) hv w)
 case unOp op t x=>exact lift (un_sim (hE x (by simp [Op.operands])) hv w)
 case convert s d x=>exact lift (conv_sim S (hE x (by simp [Op.operands])) hv)
 case makeInterface t x=>exact lift (makeIface_sim (hE x (by simp [Op.operands])) hv w)
 case makeFunc fn first captured =>
  unfold pMakeFunc at hv
  have h1:=map_AsR (ρ:=ρ) (ev:=ev) (ev':=ev') (xs:=first) fun x hx=>hE x (by simp [Op.operands,hx])
  have h2:=map_AsR (ρ:=ρ) (ev:=ev) (ev':=ev') (xs:=captured) fun x hx=>hE x (by simp [Op.operands,hx])
  split at hv
  ·split at hv
   ·cases hv; exact ⟨_,by simp [execOp,Instr.makeFunc],.func _ _ _ _ _ _ (.func _) h1.1 h1.2 h2.1 h2.2⟩
   ·cases hv
  ·split at hv
   ·cases hv; exact ⟨_,by simp [execOp,Instr.makeFunc],.func _ _ _ _ _ _ (.methodOf _ _) h1.1 h1.2 h2.1 h2.2⟩
   ·cases hv
  ·split at hv
   ·cases hv; exact ⟨_,by simp [execOp,Instr.makeFunc],.func _ _ _ _ _ _ (.method _) h1.1 h1.2 h2.1 h2.2⟩
   ·cases hv
  ·cases hv
 case build t parts =>
  refine lift (build_sim (ps':=parts.map fun (i,x)=>(i,ev' x)) ?_ hv w)
  have:=map_PsR (ρ:=ρ) (ev:=ev) (ev':=ev') (xs:=parts.toList) fun x hx=>hE x (by simpa [Op.operands] using hx)
  simpa using this
 case slice t x lo hi mx =>
  refine lift (slice_sim S (hE x (by simp [Op.operands])) (map_OR fun y hy=>hE y ?_) (map_OR fun y hy=>hE y ?_) (map_OR fun y hy=>hE y ?_) hv)
  all_goals (cases hy; simp [Op.operands])
 case fieldAddr t x f=>exact lift (fieldAddr_sim (hE x (by simp [Op.operands])) hv w)
 case field t x f=>exact lift (field_sim (hE x (by simp [Op.operands])) hv w)
 case indexAddr t x i=>exact lift (indexAddr_sim (hE x (by simp [Op.operands])) (hE i (by simp [Op.operands])) hv w)
 case index t x i=>exact lift (index_sim (hE x (by simp [Op.operands])) (hE i (by simp [Op.operands])) hv w)
 case lookup t x i ok=>exact lift (lookup_sim S (hE x (by simp [Op.operands])) (hE i (by simp [Op.operands])) hv)
 case typeAssert x xt t ok=>exact lift (assert_sim (hE x (by simp [Op.operands])) hv w)
 case extract x i=>exact lift (extract_sim (hE x (by simp [Op.operands])) hv w)
 case call c =>
  obtain ⟨callee,args,argTypes⟩:=c
  simp only at hv
  have hargs : ∀ b,callee = .builtin b→AsR ρ (args.map ev) (args.map ev'):=fun b hb=>map_AsR fun x hx=>hE x (by simp [Op.operands,Call.operands,hb,hx])
  have mm : ∀ b mx,callee = .builtin b→pMinMax P mx (args.map ev) = some v→∃ v',(if mx then Builtin.max_ #[] 0 (args.map ev') else Builtin.min_ #[] 0 (args.map ev')).run P w = .ok v' w ∧ VR ρ v v':=by
   intro b mx hb hv
   have ha:=hargs b hb
   unfold pMinMax at hv
   split at hv
   ·rename_i k n rest hl
    split at hv
    ·rename_i hall
     obtain ⟨h1,h2⟩:=chk_some hv
     have : (args.map ev).toList.all plain0 = true:=by
      rw [hl]
      simp only [List.all_cons,plain0,Bool.true_and]
      refine List.all_eq_true.2 fun x hx=>?_
      have:=List.all_eq_true.1 hall x hx
      cases x <;> simp_all [plain0]
     have he:=LsR.eq0 (AsR.list.1 ha) this
     have he' : args.map ev = args.map ev':=Array.toList_inj.1 he
     rw [← he']
     exact ⟨v,prun_run h1 w,VR.reflP ρ h2⟩
    ·cases hv
   ·cases hv
  split at hv
  ·rename_i x hl
   have hx : args = #[x]:=Array.toList_inj.1 (by simpa using hl)
   subst hx
   have:=len_sim (t:=type) S (hE x (by simp [Op.operands,Call.operands])) hv
   obtain ⟨v',h1,h2⟩:=this
   exact ⟨v',by simp [execOp,resolve,invoke,builtin,h1],h2⟩
  ·rename_i x hl
   have hx : args = #[x]:=Array.toList_inj.1 (by simpa using hl)
   subst hx
   obtain ⟨v',h1,h2⟩:=cap_sim (t:=type) (hE x (by simp [Op.operands,Call.operands])) hv w
   exact ⟨v',by simp [execOp,resolve,invoke,builtin,h1],h2⟩
  ·obtain ⟨v',h1,h2⟩:=mm .max true rfl hv
   have h1' : (Builtin.max_ argTypes type (args.map ev')).run P w = .ok v' w:=h1
   exact ⟨v',by simp [execOp,resolve,invoke,builtin,h1'],h2⟩
  ·obtain ⟨v',h1,h2⟩:=mm .min false rfl hv
   have h1' : (Builtin.min_ argTypes type (args.map ev')).run P w = .ok v' w:=h1
   exact ⟨v',by simp [execOp,resolve,invoke,builtin,h1'],h2⟩
  ·cases hv
end Go.Proofs.Ev
set_option linter.unusedVariables false
set_option linter.unusedSimpArgs false
namespace Go.Proofs.Ev
open Go Go.RowKit
variable {G : Code→Prop} {P : Program} {w0 : World} {ρ : Ren} {D : List Mk} {h : AH} {w : World}
theorem ba_eq {a b : ByteArray} (hb : (a == b) = true) : a = b:=by
 rw [beq_toListBytes] at hb
 have h1 : a.toList = b.toList:=by simpa using hb
 rw [ByteArray.toList_eq,ByteArray.toList_eq] at h1
 cases a; cases b
 exact congrArg ByteArray.mk (Array.toList_inj.1 h1)
theorem ba_self (a : ByteArray) : (a == a) = true:=by rw [beq_toListBytes]; simp
theorem new_sim (S : Sim G P w0 ρ D h w) {cs : List Value} {c' : Array Value} {e e' : TypeId} {sz : Nat} (hs : szT P e = some sz) (hle : cs.length ≤ c'.size)
  (hv : ∀ (k : Nat) (v : Value),cs[k]? = some v→∃ v',c'[k]? = some v' ∧ VR ρ v v') (fz : Nat × Nat) (hfz : fz.1 = fz.2 ∨ c'.size ≤ fz.1) :
  Sim G P w0 (ρ.ext h.n ⟨w.heap.size,0,cs.length,c'.size,sz⟩) D (h.alloc (.cells cs e true)) (w.alloc (.cells c' e' fz)):=by
 refine S.alloc _ _ _ rfl ⟨rfl,hle,⟨c',e',fz,push_new w _,by simp,fun k v hk=>?_,fun _=>hfz⟩,fun _=>⟨S.lt,hs⟩,fun hf=>(by cases hf),fun _=>rfl⟩
 ·obtain ⟨v',h1,h2⟩:=hv k v hk
  exact ⟨v',by simpa using h1,h2.mono (ext_le S _)⟩
theorem new_AsR (S : Sim G P w0 ρ D h w) {cs : List Value} {c' : Array Value} {e e' : TypeId} {sz : Nat} (hs : szT P e = some sz) (hv : LsR ρ cs c'.toList) :
  Sim G P w0 (ρ.ext h.n ⟨w.heap.size,0,cs.length,c'.size,sz⟩) D (h.alloc (.cells cs e true)) (w.alloc (.cells c' e' (0,0))):=by
 have hl:=hv.length
 refine new_sim S hs (by simp at hl; omega) (fun k v hk=>?_) (0,0) (.inl rfl)
 obtain ⟨v',h1,h2⟩:=hv.get hk
 exact ⟨v',by simpa using h1,h2⟩
theorem new_ptr (S : Sim G P w0 ρ D h w) (r : RB) (hb : r.base = 0) (hr : r.blk = w.heap.size) : VR (ρ.ext h.n r) (.pointer (some ⟨h.n,0,none⟩)) (.pointer (some ⟨w.heap.size,0,none⟩)) :=
 .ptr _ _ ⟨rfl,r,ext_new _ _ _,by simp [hb,hr]⟩
/-- What an operation comes to. -/
def Does (G : Code→Prop) (P : Program) (w0 : World) (ρ : Ren) (D : List Mk) (w : World) (s : Sem Value) (v : Value) (h2 : AH) : Prop :=
 ∃ ρ' v' w',s.run P w = .ok v' w' ∧ ρ.le ρ' ∧ VR ρ' v v' ∧ Sim G P w0 ρ' D h2 w'
/-- What an operation that makes a new row of cells comes to, whatever memory there is. -/
def Fresh (P : Program) (ρ : Ren) (w : World) (h : AH) (s : Sem Value) (v : Value) (h2 : AH) : Prop :=
 ∃ (cs : List Value) (e : TypeId) (sz : Nat) (c' : Array Value) (e' : TypeId) (v' : Value),h2 = h.alloc (.cells cs e true) ∧ szT P e = some sz ∧ LsR ρ cs c'.toList ∧
  s.run P w = .ok v' (w.alloc (.cells c' e' (0,0))) ∧ VR (ρ.ext h.n ⟨w.heap.size,0,cs.length,c'.size,sz⟩) v v'
theorem new_ptr0 (ρ : Ren) (n : Nat) (r : RB) (hb : r.base = 0) : VR (ρ.ext n r) (.pointer (some ⟨n,0,none⟩)) (.pointer (some ⟨r.blk,0,none⟩)) :=
 .ptr _ _ ⟨rfl,r,ext_new _ _ _,by simp [hb]⟩
theorem Fresh.does (S : Sim G P w0 ρ D h w) {s : Sem Value} {v : Value} {h2 : AH} (F : Fresh P ρ w h s v h2) : Does G P w0 ρ D w s v h2:=by
 obtain ⟨cs,e,sz,c',e',v',rfl,h3,h4,h5,h6⟩:=F
 exact ⟨_,v',_,h5,ext_le S _,h6,new_AsR S h3 h4⟩
/-- Made late: the evaluator has had it for long. -/
theorem Fresh.settle {hp : AH} {D2 : List Mk} (S : Sim G P w0 ρ D hp w) {s : Sem Value} {v : Value} {h2 : AH} {ob : AO} (F : Fresh P ρ w h s v h2) (hob : h2 = h.alloc ob) (hb : Mk.late h.n ob ∈ D)
  (hD : ∀ x ∈ D2,x ∈ D) (hD' : ∀ x ∈ D,x ∈ D2 ∨ ∃ o',x = Mk.late h.n o') (hnd : (D2.map Mk.key).Nodup) (hl : ¬ Late D2 h.n) : Does G P w0 ρ D2 w s v hp:=by
 obtain ⟨cs,e,sz,c',e',v',h1,h3,h4,h5,h6⟩:=F
 have hobe : ob = .cells cs e true:=by
  have:=AH.get_alloc_new h ob
  rw [← hob,h1,AH.get_alloc_new] at this
  simpa using this.symm
 subst hobe
 have hlen:=h4.length
 have hle : ρ.le (ρ.ext h.n ⟨w.heap.size,0,cs.length,c'.size,sz⟩):=fun i x hx=>by
  have : i ≠ h.n:=by rintro rfl; rw [(S.late _ _ hb).1] at hx; cases hx
  rw [ext_old ρ _ this]; exact hx
 obtain ⟨k1,k2⟩:=S.settle hb hD hD' hnd hl (.cells c' e' (0,0)) ⟨w.heap.size,0,cs.length,c'.size,sz⟩ rfl
  ⟨rfl,by simp at hlen; dsimp only; omega,⟨c',e',(0,0),push_new w _,by simp,fun k x hk=>by
   obtain ⟨x',q1,q2⟩:=h4.get hk
   exact ⟨x',by simpa using q1,q2.mono hle⟩,fun _=>.inl rfl⟩,fun _=>⟨S.lt,h3⟩,fun hf=>(by cases hf),fun _=>rfl⟩
 exact ⟨_,v',_,h5,k1,h6,k2⟩
theorem alloc_fresh {t : TypeId} {v : Value} {h2 : AH} (hv : pAlloc P t h = some (v,h2)) : Fresh P ρ w h (Instr.alloc t true (.tuple #[])) v h2:=by
 unfold pAlloc newCells at hv
 cases hzt : zeroT P t with
 | none=>rw [hzt] at hv; cases hv
 | some z =>
  rw [hzt] at hv
  simp only at hv
  split at hv
  case isFalse=>cases hv
  rename_i hzp
  cases hv
  have hsz : ∃ sz,szT P t = some sz:=by
   unfold zeroT at hzt
   unfold szT
   cases hi : P.info? t with
   | none=>rw [hi] at hzt; cases hzt
   | some i=>exact ⟨_,rfl⟩
  obtain ⟨sz,hsz⟩:=hsz
  refine ⟨_,_,sz,z.cells,t,.pointer (some ⟨w.heap.size,0,none⟩),rfl,hsz,AsR.list.1 (zero_refl hzp),?_,new_ptr0 _ _ _ rfl⟩
  simp [Instr.alloc,run_zero hzt,newVar,newRow]
theorem alloc_sim (S : Sim G P w0 ρ D h w) {t : TypeId} {v : Value} {h2 : AH} (hv : pAlloc P t h = some (v,h2)) : Does G P w0 ρ D w (Instr.alloc t true (.tuple #[])) v h2:=(alloc_fresh hv).does S
theorem box_fresh {t : TypeId} {x x' v : Value} {h2 : AH} (hx : VR ρ x x') (hv : pBox P t x h = some (v,h2)) : Fresh P ρ w h (Instr.box t x') v h2:=by
 unfold pBox newCells at hv
 split at hv
 ·rename_i hc
  simp only [Bool.and_eq_true] at hc
  cases hv
  obtain ⟨sz,hsz⟩:=Option.isSome_iff_exists.1 hc.2
  exact ⟨_,_,sz,x'.cells,t,.pointer (some ⟨w.heap.size,0,none⟩),rfl,hsz,AsR.list.1 (hx.cells hc.1),by simp [Instr.box,newVar,newRow],new_ptr0 _ _ _ rfl⟩
 ·cases hv
theorem box_sim (S : Sim G P w0 ρ D h w) {t : TypeId} {x x' v : Value} {h2 : AH} (hx : VR ρ x x') (hv : pBox P t x h = some (v,h2)) : Does G P w0 ρ D w (Instr.box t x') v h2:=(box_fresh hx hv).does S
theorem new_slice (ρ : Ren) (n m : Nat) (r : RB) (hb : r.base = 0) {l c c' : Nat} (hc : c' = c ∨ (c ≤ c' ∧ 0 < r.sz ∧ c * r.sz = r.n ∧ c' * r.sz ≤ r.cap)) :
  VR (ρ.ext n r) (.slice (some ⟨n,0,none⟩) l c) (.slice (some ⟨r.blk,0,none⟩) l c') :=
 .slice _ _ _ _ _ r ⟨rfl,r,ext_new _ _ _,by simp [hb]⟩ (ext_new _ _ _) (by simpa using hc)
theorem elem_of {t e : TypeId} (he : elemT P t = some e) : P.underlying t = some (.slice e):=by
 unfold elemT at he
 split at he
 ·cases he; assumption
 ·cases he
theorem buildSlice_fresh {t : TypeId} {n : Nat} {ps ps' : Array (Nat × Value)} {v : Value} {h2 : AH} (hps : PsR ρ ps.toList ps'.toList) (hv : pBuildSlice P t n ps h = some (v,h2)) :
  Fresh P ρ w h (Instr.buildSlice t n ps') v h2:=by
 unfold pBuildSlice at hv
 split at hv
 ·cases hv
 ·rename_i e he
  split at hv
  ·rename_i size zero hs hz
   split at hv
   ·cases hv
   ·rename_i hc
    simp only [Bool.or_eq_true,decide_eq_true_eq,Bool.not_eq_true',not_or,Bool.not_eq_false,Nat.not_lt,gt_iff_lt] at hc
    obtain ⟨⟨hc1,hc2⟩,hc3⟩:=hc
    split at hv
    ·rename_i cells hf
     cases hv
     have hbase : AsR ρ ((Array.range (n * size)).map (zero[· % zero.size]!)) ((Array.range (n * size)).map (zero[· % zero.size]!)):=by
      refine ⟨rfl,fun i a b ha hb=>?_⟩
      rw [ha] at hb
      cases hb
      simp only [Array.getElem?_map,Option.map_eq_some_iff] at ha
      obtain ⟨j,hj,rfl⟩:=ha
      have hsz : j < n * size:=by
       have:=(Array.getElem?_eq_some_iff.1 hj).2
       have h3:=(Array.getElem?_eq_some_iff.1 hj).1
       simp at this h3
       omega
      have hne : ¬ n * size = 0:=by omega
      rw [hs] at hz
      simp only [Option.getD_some,hne,if_false] at hz
      cases hzt : zeroT P e with
      | none=>rw [hzt] at hz; cases hz
      | some z =>
       rw [hzt] at hz
       simp only [Option.map_some,Option.some.injEq] at hz
       by_cases h0 : zero.size = 0
       ·have : zero = #[]:=Array.eq_empty_of_size_eq_zero h0
        subst this
        simp
        exact VR.refl0 ρ (by decide)
       ·have hlt : j % zero.size < zero.size:=Nat.mod_lt _ (by omega)
        rw [getElem!_pos zero _ hlt]
        exact VR.refl0 ρ (List.all_eq_true.1 hc3 _ (by simp))
     obtain ⟨b',h1,h2⟩:=fill_sim _ hps hc2 hbase hf
     refine ⟨_,_,size,b',e,.slice (some ⟨w.heap.size,0,none⟩) n n,rfl,hs,AsR.list.1 h2,?_,new_slice ρ h.n w.heap.size _ rfl (.inl rfl)⟩
     have hu:=elem_of he
     rw [hs] at hz
     simp only [Option.getD_some] at hz
     by_cases h0 : n * size = 0
     ·rw [if_pos h0] at hz
      cases hz
      simp only [Instr.buildSlice,Sem.run_bind,run_und hu,Result.andThen_ok,run_sz hs]
      rw [if_neg (by omega),if_pos h0]
      simp [h1,newRow,h0]
      simp [h0] at h1
      simp [h1]
     ·rw [if_neg h0] at hz
      cases hzt : zeroT P e with
      | none=>rw [hzt] at hz; cases hz
      | some z =>
       rw [hzt] at hz
       simp only [Option.map_some,Option.some.injEq] at hz
       subst hz
       simp only [Instr.buildSlice,Sem.run_bind,run_und hu,Result.andThen_ok,run_sz hs]
       rw [if_neg (by omega),if_neg h0]
       simp [run_zero hzt,h1,newRow]
    ·cases hv
  ·cases hv
theorem buildSlice_sim (S : Sim G P w0 ρ D h w) {t : TypeId} {n : Nat} {ps ps' : Array (Nat × Value)} {v : Value} {h2 : AH} (hps : PsR ρ ps.toList ps'.toList) (hv : pBuildSlice P t n ps h = some (v,h2)) :
  Does G P w0 ρ D w (Instr.buildSlice t n ps') v h2:=(buildSlice_fresh hps hv).does S
theorem makeMap_sim (S : Sim G P w0 ρ D h w) {t : TypeId} {r r' : Option Value} {v : Value} {h2 : AH} (hr : OR ρ r r') (hv : pMakeMap P t r h = some (v,h2)) : Does G P w0 ρ D w (Instr.makeMap t r') v h2:=by
 have key : ∀ kt et,mapT P t = some (kt,et)→(r' = none ∨ ∃ k n,r' = some (.int k n))→(Instr.makeMap t r').run P w = .ok (.map (some w.heap.size)) (w.alloc (.map #[] 0)):=by
  intro kt et hm hr'
  have hu:=map_of hm
  rcases hr' with rfl | ⟨k,n,rfl⟩
  ·simp [Instr.makeMap]
  ·simp [Instr.makeMap,run_und hu,asInt,asIntOf]
 have fin : Does G P w0 ρ D w (Instr.makeMap t r') (.map (some h.n)) (h.alloc (.map [] 0)) ∨ ¬ (Instr.makeMap t r').run P w = .ok (.map (some w.heap.size)) (w.alloc (.map #[] 0)):=by
  by_cases hrun : (Instr.makeMap t r').run P w = .ok (.map (some w.heap.size)) (w.alloc (.map #[] 0))
  ·refine .inl ⟨_,_,_,hrun,ext_le S ⟨w.heap.size,0,0,0,0⟩,.map _ ⟨w.heap.size,0,0,0,0⟩ (ext_new _ _ _),S.alloc _ _ _ rfl ⟨S.lt,#[],push_new w _,.nil⟩⟩
  ·exact .inr hrun
 unfold pMakeMap at hv
 split at hv
 ·rename_i q hm
  cases hv
  cases hr
  exact fin.resolve_right fun hn=>hn (key _ _ hm (.inl rfl))
 ·rename_i q k n hm
  cases hv
  cases hr with
  | some hi=>cases hi; exact fin.resolve_right fun hn=>hn (key _ _ hm (.inr ⟨_,_,rfl⟩))
 ·cases hv
theorem update_sim (S : Sim G P w0 ρ D h w) {t : TypeId} {m m' k k' x x' : Value} {h2 : AH} (hm : VR ρ m m') (hk : VR ρ k k') (hx : VR ρ x x') (hv : pUpdate P t m k x h = some h2) :
  ∃ w',(Instr.mapUpdate t m' k' x').run P w = .ok () w' ∧ Sim G P w0 ρ D h2 w':=by
 unfold pUpdate at hv
 split at hv
 ·rename_i kt et r hmt
  have hmu:=map_of hmt
  split at hv
  ·rename_i kd es clk hkd hg
   split at hv
   ·rename_i hc
    simp only [Bool.and_eq_true] at hc
    have ek:=hk.eq0 (key_plain hc.1)
    subst ek
    cases hm with
    | map _ rb hρ =>
     obtain ⟨rb',hρ',hob⟩:=S.objAt hρ hg (by simp)
     rw [hρ] at hρ'
     cases hρ'
     obtain ⟨hge,es',k1,k2⟩:=hob
     have hget : (getObj rb.blk).run P w = .ok (.map es' clk) w:=by simp [getObj,Sem.run,k1]
     have hset : ∀ o,(setObj rb.blk o).run P w = .ok () { w with heap:=w.heap.setIfInBounds rb.blk o }:=fun o=>by simp [setObj,Sem.run,k1]
     have hlt : rb.blk < w.heap.size:=(S.dom _ _ hρ).2
     have newobj : ∀ o,({ w with heap:=w.heap.setIfInBounds rb.blk o } : World).heap[rb.blk]? = some o:=fun o=>by
      show (w.heap.setIfInBounds rb.blk o)[rb.blk]? = some o
      rw [Array.getElem?_setIfInBounds_self_of_lt hlt]
     split at hv
     ·rename_i i a hf
      cases hv
      obtain ⟨r',h1,h2⟩:=find_sim k2 hf
      rcases h2 with ⟨h3,_⟩ | ⟨j,u,u',e',q1,q2,q3,q4,q5,q6⟩
      ·cases h3
      ·cases q1
       subst q2
       have hfk : (Instr.findKey kt k es'.toList).run P w = .ok (some (i,u')) w:=by simp [Instr.findKey,run_und hkd,h1]
       have hkey : e'.key = k:=by
        have:=sameNow_key q6
        unfold Instr.sameNow at q6
        unfold keyOk at hc
        split at q6
        ·simp_all
        ·simp only [Option.some.injEq] at q6; have:=ba_eq q6; subst this; assumption
        ·simp_all
        ·cases q6
       have hold : (es'[i]?).map (·.key) = some k:=by
        have : es'[i]? = some e':=by simpa using q5
        rw [this]; simp [hkey]
       have hstay : (Instr.keyThatStays k k).run P w = .ok k w:=by
        unfold Instr.keyThatStays
        have : Instr.sameBits 10000 k k = true:=by
         have h9 : ∀ n,Instr.sameBits (n + 1) k k = true:=by
          intro n
          have:=hc.1
          unfold keyOk at this
          split at this <;> first | (cases this; done) | simp [Instr.sameBits,ba_self]
         exact h9 9999
        rw [if_pos this]
        rfl
       refine ⟨_,?_,S.setObj (o1:=.map (es.modify i fun e=>{ e with key:=k,val:=x }) clk) (x:=.map (es'.modify i fun e=>{ e with key:=k,val:=x' }) clk) hg hρ rfl rfl rfl rfl ⟨hge,_,newobj _,?_⟩⟩
       ·simp [Instr.mapUpdate,run_und hmu,hget,checkKey_run hkd hc.1,hfk,hold,hstay,hset]
       ·have:=EsR.modify k2 i (fun e=>{ e with key:=k,val:=x }) (fun e=>{ e with key:=k,val:=x' }) fun a b hab=>⟨VR.refl0 ρ (key_plain hc.1),hx,hab.2.2⟩
        simpa using this
     ·rename_i hf
      cases hv
      obtain ⟨r',h1,h2⟩:=find_sim k2 hf
      rcases h2 with ⟨_,h3⟩ | ⟨j,u,u',e',q1,_⟩
      ·subst h3
       have hfk : (Instr.findKey kt k es'.toList).run P w = .ok none w:=by simp [Instr.findKey,run_und hkd,h1]
       refine ⟨_,?_,S.setObj (o1:=.map (es ++ [{ key:=k,val:=x,born:=clk }]) (clk + 1)) (x:=.map (es'.push { key:=k,val:=x',born:=clk }) (clk + 1)) hg hρ rfl rfl rfl rfl ⟨hge,_,newobj _,?_⟩⟩
       ·simp [Instr.mapUpdate,run_und hmu,hget,checkKey_run hkd hc.1,hfk,hset]
       ·have:=EsR.append k2 (b:=[{ key:=k,val:=x,born:=clk }]) (b':=[{ key:=k,val:=x',born:=clk }]) (.cons ⟨VR.refl0 ρ (key_plain hc.1),hx,rfl⟩ .nil)
        simpa using this
      ·cases q1
     ·cases hv
   ·cases hv
  ·cases hv
 ·cases hv
theorem range_sim (S : Sim G P w0 ρ D h w) {t : TypeId} {x x' v : Value} {h2 : AH} (hx : VR ρ x x') (hv : pRange P t x h = some (v,h2)) : Does G P w0 ρ D w (Instr.range t x') v h2:=by
 unfold pRange at hv
 split at hv
 ·rename_i s hu
  cases hv
  cases hx
  exact ⟨_,.pointer (some ⟨w.heap.size,0,none⟩),w.alloc (.stringIter s 0),by simp [Instr.range,run_und hu],ext_le S ⟨w.heap.size,0,0,0,0⟩,new_ptr S _ rfl rfl,S.alloc _ _ _ rfl ⟨S.lt,rfl,push_new w _⟩⟩
 ·rename_i kt et m hu
  split at hv
  ·rename_i es clk hg
   cases hv
   cases hx with
   | map _ rb hρ =>
    obtain ⟨rb',hρ',hob⟩:=S.objAt hρ hg (by simp)
    rw [hρ] at hρ'
    cases hρ'
    obtain ⟨hge,es',k1,k2⟩:=hob
    have hget : (getObj rb.blk).run P w = .ok (.map es' clk) w:=by simp [getObj,Sem.run,k1]
    exact ⟨_,.pointer (some ⟨w.heap.size,0,none⟩),w.alloc (.mapIter (some rb.blk) clk #[] clk),by simp [Instr.range,run_und hu,hget],ext_le S ⟨w.heap.size,0,0,0,0⟩,new_ptr S _ rfl rfl,
     S.alloc _ _ _ rfl ⟨S.lt,rfl,rb,ext_le S _ _ _ hρ,push_new w _⟩⟩
  ·cases hv
 ·cases hv
theorem EsR.filter {ρ : Ren} {a a' : List MapEntry} (h : EsR ρ a a') (f : Nat→Bool) : EsR ρ (a.filter fun e=>f e.born) (a'.filter fun e=>f e.born):=by
 induction h with
 | nil=>exact .nil
 | @cons x y xs ys hx hr ih =>
  have hb : x.born = y.born:=hx.2.2
  by_cases hc : f x.born = true
  ·have hc' : f y.born = true:=by rw [← hb]; exact hc
   simp only [List.filter_cons,hc,hc',if_true]
   exact .cons hx ih
  ·have hc' : ¬ f y.born = true:=by rw [← hb]; exact hc
   simp only [List.filter_cons,hc,hc']
   exact ih
theorem EsR.all {ρ : Ren} {a a' : List MapEntry} (h : EsR ρ a a') (f : Nat→Bool) : (a.all fun e=>f e.born) = a'.all fun e=>f e.born:=by
 induction h with
 | nil=>rfl
 | cons hx hr ih=>simp only [List.all_cons,ih,hx.2.2]
theorem EsR.isEmpty {ρ : Ren} {a a' : List MapEntry} (h : EsR ρ a a') : a.isEmpty = a'.isEmpty:=by cases h <;> rfl
theorem EsR.find {ρ : Ren} {a a' : List MapEntry} (h : EsR ρ a a') (f : Nat→Bool) {e : MapEntry} (he : (a.find? fun e=>f e.born) = some e) : ∃ e',(a'.find? fun e=>f e.born) = some e' ∧ EnR ρ e e':=by
 induction h with
 | nil=>cases he
 | @cons x y xs ys hx hr ih =>
  have hb : x.born = y.born:=hx.2.2
  by_cases hc : f x.born = true
  ·have hc' : f y.born = true:=by rw [← hb]; exact hc
   simp only [List.find?_cons,hc] at he
   cases he
   exact ⟨y,by simp only [List.find?_cons,hc'],hx⟩
  ·have hc1 : f x.born = false:=by simpa using hc
   have hc' : f y.born = false:=by rw [← hb]; exact hc1
   simp only [List.find?_cons,hc1] at he
   obtain ⟨e',h1,h2⟩:=ih he
   exact ⟨e',by simp only [List.find?_cons,hc']; exact h1,h2⟩
theorem forced_one : (Question.mapNext 1).forced = true:=rfl
theorem cut_one (n : Nat) : (Question.mapNext 1).cut n = 0:=Nat.mod_one n
theorem tupleR {ρ : Ren} {a a' : List Value} (h : LsR ρ a a') : VR ρ (.tuple a.toArray) (.tuple a'.toArray):=by
 have:=(AsR.list (ρ:=ρ) (a:=a.toArray) (a':=a'.toArray)).2 (by simpa using h)
 exact .tuple _ _ this.1 this.2
theorem step_sim (S : Sim G P w0 ρ D h w) {t : TypeId} {r m since last : Nat} {seen : List Nat} {es : List MapEntry} {clk : Nat} {rb rm : RB} {v : Value} {h2 : AH} (hρ : ρ r = some rb) (hg : h.get r = some (.miter m since seen last)) (hm : ρ m = some rm)
  (hgm : h.get m = some (.map es clk)) (hv : pStep r m since seen last es clk h = some (v,h2)) : Does G P w0 ρ D w (Instr.next (.pointer (some ⟨rb.blk,rb.base + 0,none⟩)) false t) v h2:=by
 obtain ⟨rb',hρ',hob⟩:=S.objAt hρ hg (by simp)
 rw [hρ] at hρ'
 cases hρ'
 obtain ⟨hge,hb,rm',hm',k1⟩:=hob
 rw [hm] at hm'
 cases hm'
 obtain ⟨rm',hm',hob'⟩:=S.objAt hm hgm (by simp)
 rw [hm] at hm'
 cases hm'
 obtain ⟨_,es',k2,k3⟩:=hob'
 have hlt : rb.blk < w.heap.size:=(S.dom _ _ hρ).2
 have hget : (getObj rb.blk).run P w = .ok (.mapIter (some rm.blk) since seen.toArray last) w:=by simp [getObj,Sem.run,k1]
 have hgetm : (getObj rm.blk).run P w = .ok (.map es' clk) w:=by simp [getObj,Sem.run,k2]
 have hset : ∀ o,(setObj rb.blk o).run P w = .ok () { w with heap:=w.heap.setIfInBounds rb.blk o }:=fun o=>by simp [setObj,Sem.run,k1]
 unfold pStep at hv
 split at hv
 ·cases hv
 ·rename_i hno
  have hno' : ¬ (!seen.toArray.isEmpty && !es'.isEmpty && es'.all (fun e=>decide (e.born ≥ last))) = true:=by
   rw [k3.all (fun b=>decide (b ≥ last)),k3.isEmpty] at hno
   simpa using hno
  have hf:=k3.filter (fun b=>!seen.contains b)
  have hleft : (es'.filter fun e=>!seen.toArray.contains e.born).toList = es'.toList.filter fun e=>!seen.contains e.born:=by simp
  have hbs : (⟨rb.blk,rb.base + 0,none⟩ : Addr) = ⟨rb.blk,0,none⟩:=by rw [hb]
  rw [hbs]
  split at hv
  ·rename_i hl
   cases hv
   rw [hl] at hf
   have hnil : es'.filter (fun e=>!seen.toArray.contains e.born) = #[]:=by
    apply Array.toList_inj.1
    rw [hleft]
    generalize es'.toList.filter (fun e=>!seen.contains e.born) = z at hf ⊢
    cases hf; rfl
   refine ⟨ρ,.tuple #[.bool false],w,?_,Ren.le_refl _,tupleR (a:=[.bool false]) (a':=[.bool false]) (.cons (.bool _) .nil),S⟩
   simp only [Instr.next,Sem.run_bind,hget,hgetm,Result.andThen_ok]
   rw [if_neg hno',hnil]
   simp [forced_one,cut_one]
  ·rename_i e hl
   split at hv
   ·rename_i hlt2
    cases hv
    rw [hl] at hf
    obtain ⟨e',he',hre⟩ : ∃ e',es'.filter (fun e=>!seen.toArray.contains e.born) = #[e'] ∧ EnR ρ e e':=by
     generalize hz : es'.toList.filter (fun e=>!seen.contains e.born) = z at hf
     cases hf with
     | cons hx hr =>
      cases hr
      exact ⟨_,Array.toList_inj.1 (by rw [hleft,hz]),hx⟩
    have hbn : e.born = e'.born:=hre.2.2
    refine ⟨ρ,.tuple #[.bool true,e'.key,e'.val],{ w with heap:=w.heap.setIfInBounds rb.blk (.mapIter (some rm.blk) since (seen.toArray.push e'.born) clk) },?_,Ren.le_refl _,
     tupleR (a:=[.bool true,e.key,e.val]) (a':=[.bool true,e'.key,e'.val]) (.cons (.bool _) (.cons hre.1 (.cons hre.2.1 .nil))),?_⟩
    ·simp only [Instr.next,Sem.run_bind,hget,hgetm,Result.andThen_ok]
     rw [if_neg hno',he']
     have h1 : (#[e'] : Array MapEntry).filter (fun x=>decide (x.born < since)) = #[e']:=by
      have : decide (e'.born < since) = true:=by rw [← hbn]; simpa using hlt2
      simp [this]
     have h2 : (#[e'] : Array MapEntry).filter (fun x=>decide (x.born ≥ since)) = #[]:=by
      have : decide (e'.born ≥ since) = false:=by rw [← hbn]; simpa using hlt2
      simp [this]
     rw [h1,h2]
     simp [forced_one,cut_one,hset]
    ·exact S.setObj hg hρ rfl rfl rfl rfl ⟨hge,hb,rm,hm,by
      show (w.heap.setIfInBounds rb.blk _)[rb.blk]? = _
      rw [Array.getElem?_setIfInBounds_self_of_lt hlt]
      simp [hbn]⟩
   ·cases hv
  ·cases hv
theorem entry_sim (S : Sim G P w0 ρ D h w) {x x' v : Value} {h2 : AH} (hx : VR ρ x x') (hv : pEntry x h = some (v,h2)) : Does G P w0 ρ D w (Instr.entry x') v h2:=by
 unfold pEntry at hv
 split at hv
 ·rename_i r
  split at hv
  ·rename_i m since seen last hg
   split at hv
   ·rename_i es clk stamp hgm hst
    split at hv
    ·rename_i hck
     cases hx with
     | ptr _ a' hr =>
      obtain ⟨_,rb,hρ,rfl⟩:=hr
      obtain ⟨rb',hρ',hob⟩:=S.objAt hρ hg (by simp)
      rw [hρ] at hρ'
      cases hρ'
      obtain ⟨hge,hb,rm,hm,k1⟩:=hob
      obtain ⟨rm',hm',hob'⟩:=S.objAt hm hgm (by simp)
      rw [hm] at hm'
      cases hm'
      obtain ⟨_,es',k2,k3⟩:=hob'
      have hget : (getObj rb.blk).run P w = .ok (.mapIter (some rm.blk) since seen.toArray last) w:=by simp [getObj,Sem.run,k1]
      have hgetm : (getObj rm.blk).run P w = .ok (.map es' clk) w:=by simp [getObj,Sem.run,k2]
      cases hf : es.find? (fun e=>e.born == stamp) with
      | none=>rw [hf] at hv; cases hv
      | some e =>
       rw [hf] at hv
       cases hv
       obtain ⟨e',q1,q2⟩:=k3.find (fun b=>b == stamp) hf
       refine ⟨ρ,.tuple #[e'.key,e'.val],w,?_,Ren.le_refl _,tupleR (a:=[e.key,e.val]) (a':=[e'.key,e'.val]) (.cons q2.1 (.cons q2.2.1 .nil)),S⟩
       have hback : seen.toArray.back? = some stamp:=by simpa using hst
       have hfind : es'.find? (fun e=>e.born == stamp) = some e':=by simpa using q1
       simp [Instr.entry,hb,hget,hgetm,hback,hck,hfind]
    ·cases hv
   ·cases hv
  ·cases hv
 ·cases hv
theorem next_sim (S : Sim G P w0 ρ D h w) {t : TypeId} {b : Bool} {x x' v : Value} {h2 : AH} (hx : VR ρ x x') (hv : pNext x b h = some (v,h2)) : Does G P w0 ρ D w (Instr.next x' b t) v h2:=by
 unfold pNext at hv
 split at hv
 ·rename_i r
  split at hv
  ·rename_i m since seen last hg
   split at hv
   ·rename_i es clk hgm
    cases hx with
    | ptr _ a' hr =>
     obtain ⟨_,rb,hρ,rfl⟩:=hr
     obtain ⟨rb',hρ',hob⟩:=S.objAt hρ hg (by simp)
     rw [hρ] at hρ'
     cases hρ'
     obtain ⟨_,_,rm,hm,_⟩:=hob
     exact step_sim S hρ hg hm hgm hv
   ·cases hv
  ·cases hv
 ·rename_i r
  split at hv
  ·rename_i s pos hg
   cases hx with
   | ptr _ a' hr =>
    obtain ⟨_,rb,hρ,rfl⟩:=hr
    obtain ⟨rb',hρ',hob⟩:=S.objAt hρ hg (by simp)
    rw [hρ] at hρ'
    cases hρ'
    obtain ⟨hge,hb,k1⟩:=hob
    have hlt : rb.blk < w.heap.size:=(S.dom _ _ hρ).2
    have hget : (getObj rb.blk).run P w = .ok (.stringIter s pos) w:=by simp [getObj,Sem.run,k1]
    have hset : ∀ o,(setObj rb.blk o).run P w = .ok () { w with heap:=w.heap.setIfInBounds rb.blk o }:=fun o=>by simp [setObj,Sem.run,k1]
    simp only [hb,Nat.zero_add]
    split at hv
    ·rename_i hp
     simp only [Option.some.injEq,Prod.mk.injEq] at hv
     obtain ⟨rfl,rfl⟩:=hv
     refine ⟨ρ,.tuple #[.bool true,goInt pos,.int .i32 (Utf8.decode s pos).1],{ w with heap:=w.heap.setIfInBounds rb.blk (.stringIter s (pos + (Utf8.decode s pos).2)) },?_,Ren.le_refl _,VR.tuple _ _ rfl ?_,?_⟩
     ·simp [Instr.next,hget,hp,hset]
     ·have:=(AsR.list (ρ:=ρ) (a:=#[.bool true,goInt pos,.int .i32 (Utf8.decode s pos).1]) (a':=#[.bool true,goInt pos,.int .i32 (Utf8.decode s pos).1])).2 (LsR.refl0 ρ (by simp [plain0,goInt]))
      exact this.2
     ·exact S.setObj hg hρ rfl rfl rfl rfl ⟨hge,hb,by show (w.heap.setIfInBounds rb.blk _)[rb.blk]? = _; rw [Array.getElem?_setIfInBounds_self_of_lt hlt]⟩
    ·rename_i hp
     cases hv
     refine ⟨ρ,.tuple #[.bool false],w,by simp [Instr.next,hget,hp],Ren.le_refl _,?_,S⟩
     have:=(AsR.list (ρ:=ρ) (a:=#[.bool false]) (a':=#[.bool false])).2 (.cons (.bool _) .nil)
     exact .tuple _ _ this.1 this.2
  ·cases hv
 ·cases hv
end Go.Proofs.Ev
set_option linter.unusedVariables false
set_option linter.unusedSimpArgs false
namespace Go.Proofs.Ev
open Go Go.RowKit
variable {G : Code→Prop} {P : Program} {w0 : World} {ρ : Ren} {D : List Mk} {h : AH} {w : World}
theorem Sim.drew (S : Sim G P w0 ρ D h w) : Sim G P w0 ρ D h w.drew:=S.drawn _
theorem freeze_new (W : World) (c : Array Value) (e : TypeId) : (W.alloc (.cells c e (0,0))).freeze ⟨W.heap.size,c.size,none⟩ 1 = W.alloc (.cells c e (c.size,c.size + 1)):=by
 unfold World.freeze
 simp only [World.alloc,Nat.one_ne_zero,if_false]
 congr 1
 refine Array.ext_getElem? fun i=>?_
 rw [Array.getElem?_modify,Array.getElem?_push,Array.getElem?_push]
 by_cases hi : W.heap.size = i
 ·subst hi; simp
 ·rw [if_neg hi]
  split <;> simp_all
theorem bytes_sim (S : Sim G P w0 ρ D h w) {s d : TypeId} {x x' v : Value} {h2 : AH} (hx : VR ρ x x') (hv : pBytes P s d x h = some (v,h2)) : Does G P w0 ρ D w (convert s d x') v h2:=by
 unfold pBytes at hv
 split at hv
 ·rename_i t e he
  cases hx
  split at hv
  ·rename_i hs hu hz
   simp only [Option.some.injEq,Prod.mk.injEq] at hv
   obtain ⟨rfl,rfl⟩:=hv
   have hd:=elem_of he
   have S1:=S.drew
   generalize hcap : Question.cut (.appendCap t.size 0 e) (w.tape w.drawn (.appendCap t.size 0 e)) = cap
   have hle : t.size ≤ cap:=by rw [← hcap]; simp [Question.cut]
   let ba : UInt8→Value:=fun b=>.int .u8 b.toNat
   have hsz : ((t.data.map ba) ++ Array.replicate (cap - t.size) (Value.int .u8 0)).size = cap:=by simp; change t.size + _ = _; omega
   have N:=new_sim (e:=e) (e':=e) S1 (cs:=t.data.toList.map ba) (c':=(t.data.map ba) ++ Array.replicate (cap - t.size) (Value.int .u8 0)) hz (by rw [hsz]; simpa using hle)
    (fun k v hk=>⟨v,by
     have hk' : k < t.data.size:=by
      have:=(List.getElem?_eq_some_iff.1 hk).1
      simpa using this
     rw [Array.getElem?_append_left (by simpa using hk')]
     simpa using hk,by
     simp only [List.getElem?_map,Option.map_eq_some_iff] at hk
     obtain ⟨b,_,rfl⟩:=hk
     exact .int _ _⟩) (cap,cap + 1) (.inr (by rw [hsz]; exact Nat.le_refl _))
   refine ⟨_,.slice (some ⟨w.heap.size,0,none⟩) t.size cap,_,?_,ext_le S1 _,new_slice ρ h.n w.heap.size _ rfl (.inr ⟨hle,Nat.one_pos,by rw [Nat.mul_one,List.length_map,Array.length_toList]; rfl,by rw [Nat.mul_one]; exact Nat.le_of_eq hsz.symm⟩),N⟩
   generalize hC : (t.data.map ba) ++ Array.replicate (cap - t.size) (Value.int .u8 0) = C at *
   have r1 : (choose (.appendCap t.size 0 e)).run P w = .ok cap w.drew:=by
    simp only [run_choose,Question.forced,Bool.false_eq_true,if_false,hcap]; rfl
   have r2 : (newRow e C).run P w.drew = .ok ⟨w.heap.size,0,none⟩ (w.drew.alloc (.cells C e (0,0))):=rfl
   have hsh : (w.drew.alloc (.cells C e (0,0))).shape? w.heap.size = some (e,C.size):=by
    unfold World.shape?
    have:=push_new w.drew (.cells C e (0,0))
    rw [World.size_drew] at this
    rw [this]
   have r3 : (markStringish ⟨w.heap.size,0,none⟩).run P (w.drew.alloc (.cells C e (0,0))) = .ok () (w.drew.alloc (.cells C e (cap,cap + 1))):=by
    unfold markStringish
    simp only [Sem.run_bind,run_shape,hsh,Result.andThen_ok,run_freeze]
    have:=freeze_new w.drew C e
    rw [World.size_drew] at this
    rw [this,hsz]
   have hC' : t.data.map (fun b=>(Value.int .u8 (b.toNat : Int))) ++ Array.replicate (cap - t.size) (Value.int .u8 0) = C:=hC
   simp only [convert,Sem.run_bind,run_und hs,run_und hd,run_und hu,Result.andThen_ok,Conv.stringToBytes,r1,hC',r2,r3,Sem.run_pure]
  ·cases hv
 ·rename_i a n c e he
  split at hv
  ·rename_i cs e' hu hb
   split at hv
   ·rename_i hcond
    obtain ⟨rfl,hn0⟩:=hcond
    simp only [Option.some.injEq,Prod.mk.injEq] at hv
    obtain ⟨rfl,rfl⟩:=hv
    cases hx with
    | slice0=>exact absurd rfl hn0
    | slice _ a' _ _ c' r ha hr hcc =>
     obtain ⟨hsp,r2,hr2,rfl⟩:=ha
     rw [hr] at hr2
     cases hr2
     obtain ⟨r3,hr3,hc⟩:=S.cells hr hb
     rw [hr] at hr3
     cases hr3
     obtain ⟨c1,e1,fz,h1,h2,h3,h4⟩:=hc.heap
     have hd:=elem_of he
     have hge:=(hc.mine rfl).1
     have hsh : w.shape? r.blk = some (e1,c1.size):=by unfold World.shape?; rw [h1]
     have hm : (markStringish ⟨r.blk,r.base + a.off,none⟩).run P w = .ok () (w.freeze ⟨r.blk,c1.size,none⟩ 1):=by
      unfold markStringish
      simp only [Sem.run_bind,run_shape,hsh,Result.andThen_ok,run_freeze]
     obtain ⟨fz2,hf2,hf3⟩ : ∃ fz2,(w.freeze ⟨r.blk,c1.size,none⟩ 1).heap[r.blk]? = some (.cells c1 e1 fz2) ∧ (fz2.1 = fz2.2 ∨ c1.size ≤ fz2.1):=by
      obtain ⟨lo,hi⟩:=fz
      refine ⟨if lo == hi then (c1.size,c1.size + 1) else (min lo c1.size,max hi (c1.size + 1)),?_,.inr ?_⟩
      ·simp [World.freeze,Array.getElem?_modify,h1]
      ·have:=h4 rfl
       simp only at this
       split
       ·exact Nat.le_refl _
       ·rename_i hne
        have hne' : lo ≠ hi:=by simpa using hne
        show c1.size ≤ min lo c1.size
        omega
     have hother : ∀ k,k ≠ r.blk→(w.freeze ⟨r.blk,c1.size,none⟩ 1).heap[k]? = w.heap[k]?:=fun k hk=>by
      simp only [World.freeze,Nat.one_ne_zero,if_false,Array.getElem?_modify]
      rw [if_neg (by omega)]
     have hsize : (w.freeze ⟨r.blk,c1.size,none⟩ 1).heap.size = w.heap.size:=by simp [World.freeze]
     have S2:=S.turn (w1:=w.freeze ⟨r.blk,c1.size,none⟩ 1) (o1:=.cells cs e' true) hb hr rfl rfl rfl
      (S.below.trans ⟨rfl,rfl,rfl,by rw [hsize]; exact Nat.le_refl _,fun k hk=>hother k (by omega)⟩) hsize hother
      (fun j oj rj hji hj hmj hrj heq hobj=>by
       cases oj with
       | cells cj ej ownj =>
        obtain ⟨cj',ej',fzj,q1,q2,q3,q4⟩:=CellsR.heap hobj
        rw [heq,h1] at q1
        cases q1
        exact ⟨CellsR.n hobj,CellsR.le hobj,⟨_,_,_,by rw [heq]; exact hf2,q2,q3,fun _=>hf3⟩,CellsR.mine hobj,CellsR.ext hobj,CellsR.flat hobj⟩
       | map es clk=>obtain ⟨_,es',k1,_⟩:=hobj; rw [heq,h1] at k1; cases k1
       | iter s p=>have:=hobj.2.2; rw [heq,h1] at this; cases this
       | miter m s l t=>obtain ⟨_,_,rm,_,k1⟩:=hobj; rw [heq,h1] at k1; cases k1
       | loop st pd f ts ps as bd=>obtain ⟨_,_,_,f',ts',d',k1,_⟩:=hobj; rw [heq,h1] at k1; cases k1
       | dead=>simp [mine] at hmj)
      ⟨hc.n,hc.le,⟨_,_,_,hf2,h2,h3,fun _=>hf3⟩,hc.mine,hc.ext,hc.flat⟩
     refine ⟨ρ,_,_,?_,Ren.le_refl _,.slice a _ n c c' r ⟨hsp,r,hr,rfl⟩ hr hcc,S2⟩
     simp [convert,run_und hd,run_und hu,hm]
   ·cases hv
  ·cases hv
 ·cases hv
theorem flat_get {l : List Value} : ∀ (c k : Nat),k < c * l.length→(List.replicate c l).flatten[k]? = l[k % l.length]?:=by
 intro c
 induction c with
 | zero=>intro k hk; omega
 | succ c ih =>
  intro k hk
  rw [List.replicate_succ,List.flatten_cons]
  by_cases h1 : k < l.length
  ·rw [List.getElem?_append_left h1,Nat.mod_eq_of_lt h1]
  ·rw [List.getElem?_append_right (by omega),ih (k - l.length) (by rw [Nat.add_mul] at hk; omega)]
   congr 1
   conv=>rhs; rw [show k = (k - l.length) + l.length by omega,Nat.add_mod_right]
theorem zeros_sim {z : Value} {size c : Nat} (hz : z.cells.size = size) (hp : z.cells.toList.all plain0 = true) (zero : Array Value) (h0 : c * size ≠ 0→zero = z.cells) :
  LsR ρ ((List.replicate c z.cells.toList).flatten) (((Array.range (c * size)).map (zero[· % zero.size]!)).toList):=by
 have hlen : ((List.replicate c z.cells.toList).flatten).length = c * size:=by simp [hz]
 have hA : AsR ρ ((List.replicate c z.cells.toList).flatten).toArray ((Array.range (c * size)).map (zero[· % zero.size]!)):=by
  refine ⟨by simp [hz],fun i v v' h1 h2=>?_⟩
  have hi : i < c * size:=by
   have:=(Array.getElem?_eq_some_iff.1 h2).1
   simpa using this
  have hzz:=h0 (by omega)
  subst hzz
  simp only [List.getElem?_toArray] at h1
  rw [flat_get c i (by simpa [hz] using hi)] at h1
  simp only [Array.getElem?_map,Option.map_eq_some_iff] at h2
  obtain ⟨j,hj,rfl⟩:=h2
  have hj' : j = i:=by
   have:=(Array.getElem?_eq_some_iff.1 hj).2
   simp at this
   exact this.symm
  subst hj'
  have hne : z.cells.size ≠ 0:=by intro h9; rw [← hz,h9] at hi; omega
  have hlt : j % z.cells.size < z.cells.size:=Nat.mod_lt _ (by omega)
  rw [getElem!_pos z.cells _ hlt]
  rw [Array.length_toList] at h1
  rw [Array.getElem?_toList,Array.getElem?_eq_getElem hlt] at h1
  cases h1
  exact VR.refl0 ρ (List.all_eq_true.1 hp _ (by simp))
 simpa using AsR.list.1 hA
theorem makeSlice_fresh {t : TypeId} {l l' c c' v : Value} {h2 : AH} (hl : VR ρ l l') (hc : VR ρ c c') (hv : pMakeSlice P t l c h = some (v,h2)) : Fresh P ρ w h (Instr.makeSlice t l' c') v h2:=by
 unfold pMakeSlice at hv
 split at hv
 ·rename_i e kl l kc c he
  cases hl
  cases hc
  split at hv
  ·rename_i size bytes z hs hb hz
   split at hv
   ·rename_i hcd
    obtain ⟨c0,c1,c2,c3,c4,c5⟩:=hcd
    cases hv
    have hu:=elem_of he
    obtain ⟨info,hi,hib⟩:=run_bytesT hb w
    have wl : IntKind.i64.wrap l = l:=IntWalk.i64_in _ (by omega)
    have wc : IntKind.i64.wrap c = c:=IntWalk.i64_in _ (by omega)
    have hzr:=zeros_sim (ρ:=ρ) (c:=c.toNat) c4 c5
    have hsz : ((List.replicate c.toNat z.cells.toList).flatten).length = c.toNat * size:=by simp [c4]
    let zero : Array Value:=if c.toNat * size = 0 then #[] else z.cells
    have hzero : c.toNat * size ≠ 0→zero = z.cells:=fun h0=>if_neg h0
    refine ⟨_,e,size,_,e,.slice (some ⟨w.heap.size,0,none⟩) l.toNat c.toNat,rfl,hs,hzr zero hzero,?_,new_slice ρ h.n w.heap.size _ rfl (.inl rfl)⟩
    simp only [Instr.makeSlice,Sem.run_bind,run_und hu,Result.andThen_ok,asInt,asIntOf,Sem.run_pure,hi,wl,wc,hib]
    have k1 : (decide (c < 0) || decide ((bytes : Int) * c > 2 ^ 48)) = false:=by simp; omega
    have k2 : ¬ ((decide (c < 0) || decide ((bytes : Int) * c > 2 ^ 48) || decide (l < 0) || decide (l > c)) = true):=by rw [k1]; simp; omega
    rw [if_neg k2]
    simp only [Sem.run_pure,Result.andThen_ok,run_askRoom,Sem.run_bind,run_sz hs]
    by_cases h0 : c.toNat * size = 0
    ·rw [if_pos h0]
     simp only [Sem.run_pure,Result.andThen_ok,newRow,run_newObj,Sem.run_bind,zero,h0,if_true]
     rfl
    ·rw [if_neg h0]
     simp only [Sem.run_pure,Result.andThen_ok,newRow,run_newObj,Sem.run_bind,run_zero hz,zero,h0,if_false]
     rfl
   ·cases hv
  ·cases hv
 ·cases hv
theorem makeSlice_sim (S : Sim G P w0 ρ D h w) {t : TypeId} {l l' c c' v : Value} {h2 : AH} (hl : VR ρ l l') (hc : VR ρ c c') (hv : pMakeSlice P t l c h = some (v,h2)) : Does G P w0 ρ D w (Instr.makeSlice t l' c') v h2 :=
 (makeSlice_fresh hl hc hv).does S
/-! ### What is appended, copied -/
theorem firstCells_sim (S : Sim G P w0 ρ D h w) {size n : Nat} {x x' : Value} {cs : List Value} (hx : VR ρ x x') (hc : cellsOf P size n x h = some cs) :
  ∃ cs' : List Value,(Builtin.firstCells size n x').run P w = .ok cs'.toArray w ∧ LsR ρ cs cs':=by
 unfold cellsOf at hc
 split at hc
 ·split at hc
  ·cases hc; cases hx; exact ⟨[],by simp [Builtin.firstCells],.nil⟩
  ·cases hc
 ·rename_i a m c
  split at hc
  ·rename_i h0
   cases hc
   refine ⟨[],?_,.nil⟩
   cases hx <;> simp [Builtin.firstCells,h0,loadCells,loadCellsFrom]
  ·rename_i h0
   cases hx with
   | slice0 =>
    split at hc
    ·rename_i h1
     have : n = 0:=by omega
     subst this
     simp at h0
    ·cases hc
   | slice _ a' _ _ c' r hr h1 h2 =>
    split at hc
    case isFalse=>cases hc
    obtain ⟨_,r2,hρ2,rfl⟩:=hr
    obtain ⟨r',hρ',cs',k1,k2⟩:=loadCells_sim S hρ2 hc
    rw [hρ2] at hρ'
    cases hρ'
    exact ⟨cs',by simpa [Builtin.firstCells] using k2,k1⟩
 ·rename_i s
  split at hc
  ·cases hc
   cases hx
   refine ⟨_,by simp only [Builtin.firstCells,Sem.run_pure,Array.toArray_toList],LsR.refl0 ρ (List.all_eq_true.2 fun v hv=>?_)⟩
   simp only [Array.toList_map,List.mem_map] at hv
   obtain ⟨b,_,rfl⟩:=hv
   rfl
  ·cases hc
 ·cases hc
theorem lenOf_run {x x' : Value} {m : Nat} (hx : VR ρ x x') (hm : lenE x = some m) (w : World) : (Builtin.lenOf x').run P w = .ok m w:=by
 unfold lenE at hm
 split at hm
 ·cases hm; cases hx <;> rfl
 ·cases hm; cases hx; rfl
 ·cases hm
theorem grow_bound (need : Nat) : ∀ (k c : Nat),c ≤ need + need / 4 + 192→Builtin.growBy need k c ≤ need + need / 4 + 192:=by
 intro k
 induction k with
 | zero=>intro c hc; exact hc
 | succ k ih =>
  intro c hc
  unfold Builtin.growBy
  split
  ·exact hc
  ·exact ih _ (by omega)
theorem cap_bound {need old : Nat} (hlt : old < need) : Builtin.nextslicecap need old ≤ 2 * need + 192:=by
 unfold Builtin.nextslicecap
 split
 ·omega
 ·split
  ·omega
  ·have:=grow_bound need 4 old (by omega)
   omega
theorem zeroCells_size (z : Array Value) (n : Nat) : (Builtin.zeroCells z n).size = n * z.size:=by simp [Builtin.zeroCells]
theorem kill_n (h : AH) (b o : Nat) : (kill h b o).n = h.n:=by unfold kill; split <;> (try split) <;> simp
theorem kill_sim (S : Sim G P w0 ρ D h w) (b o : Nat) : Sim G P w0 ρ D (kill h b o) w:=by
 unfold kill
 split
 ·split
  ·exact S.giveUp _
  ·exact S
 ·exact S
/-- A block that was given up lives on, longer, under another number. -/
theorem Sim.regrow (S : Sim G P w0 ρ D h w) {i : Nat} {c : List Value} {e : TypeId} {r : RB} (hi : h.get i = some (.cells c e true)) (hr : ρ i = some r) {w1 : World} {c1 : Array Value} {e1 : TypeId} {fz : Nat × Nat} {c0 : Array Value}
  (hold : w.heap[r.blk]? = some (.cells c0 e1 fz)) (hnew : w1.heap[r.blk]? = some (.cells c1 e1 fz)) (hsz : w1.heap.size = w.heap.size) (hcs : c1.size = c0.size) (hb : Below w0.heap.size w0 w1)
  (hother : ∀ k,k ≠ r.blk→w1.heap[k]? = w.heap[k]?) (hout : ∀ k,(k < r.base ∨ r.base + r.cap ≤ k)→c1[k]? = c0[k]?)
  {off : Nat} {cs : List Value} {sz : Nat} {el : TypeId} (hoff : off + cs.length ≤ r.cap) (hel : szT P el = some sz) (h00 : off = 0)
  (hv : ∀ (k : Nat) (v : Value),cs[k]? = some v→∃ v',c1[r.base + off + k]? = some v' ∧ VR ρ v v') :
  Sim G P w0 (ρ.ext h.n ⟨r.blk,r.base + off,cs.length,r.cap - off,sz⟩) D ((h.set i .dead).alloc (.cells cs el true)) w1:=by
 have S0:=S.giveUp i
 obtain ⟨r',hr',hc⟩:=S.cells hr hi
 rw [hr] at hr'
 cases hr'
 obtain ⟨c0',e0',fz0,q1,q2,q3,q4⟩:=hc.heap
 rw [hold] at q1
 cases q1
 have hge:=(hc.mine rfl).1
 have hle : ρ.le (ρ.ext h.n ⟨r.blk,r.base + off,cs.length,r.cap - off,sz⟩):=ext_le S _
 have hn : (h.set i .dead).n = h.n:=by simp
 have gnew : ∀ j oj,((h.set i .dead).alloc (.cells cs el true)).get j = some oj→(j = h.n ∧ oj = .cells cs el true) ∨ (j < h.n ∧ (h.set i .dead).get j = some oj):=by
  intro j oj hj
  by_cases hjn : j = h.n
  ·subst hjn
   have:=AH.get_alloc_new (h.set i .dead) (.cells cs el true)
   rw [hn] at this
   rw [this] at hj
   cases hj
   exact .inl ⟨rfl,rfl⟩
  ·have hlt : j < h.n:=by have:=AH.get_lt hj; simp at this; omega
   rw [AH.get_alloc_old _ _ (by rw [hn]; exact hlt)] at hj
   exact .inr ⟨hlt,hj⟩
 have apart : ∀ j oj rj,(h.set i .dead).get j = some oj→mine oj = true→ρ j = some rj→rj.blk = r.blk→isC oj = true ∧ (rj.base + rj.cap ≤ r.base ∨ r.base + r.cap ≤ rj.base):=by
  intro j oj rj hj hm hrj heq
  have hji : j ≠ i:=by
   rintro rfl
   rw [AH.get_set_same h _ _ hi] at hj
   cases hj
   simp [mine] at hm
  rw [AH.get_set_other h _ (Ne.symm hji)] at hj
  rcases S.sep j i oj _ rj r hji hj hi hm rfl hrj hr with k1 | ⟨k1,_,k2⟩
  ·exact absurd heq k1
  ·exact ⟨k1,k2⟩
 refine ⟨hb,fun j q hq=>?_,fun j oj hj hd hl=>?_,fun a b oa ob ra rb hab ha hb' ma mb hra hrb=>?_,fun d hd=>?_,S.nodup,fun b ob hb=>?_⟩
 ·by_cases hjn : j = h.n
  ·subst hjn
   rw [ext_new] at hq
   cases hq
   have:=(S.dom _ _ hr).2
   simp
   omega
  ·rw [ext_old ρ _ hjn] at hq
   have:=S.dom j q hq
   simp
   omega
 ·rcases gnew j oj hj with ⟨rfl,rfl⟩ | ⟨hlt,hj'⟩
  ·refine ⟨_,ext_new _ _ _,rfl,by dsimp only; omega,⟨c1,e1,fz,hnew,by dsimp only; omega,fun k v hk=>?_,fun _=>by rw [hcs]; exact q4 rfl⟩,fun _=>⟨hge,hel⟩,fun hf=>(by cases hf),fun _=>(by dsimp only; rw [hc.flat rfl,h00])⟩
   obtain ⟨v',a,b⟩:=hv k v hk
   exact ⟨v',a,b.mono hle⟩
  ·obtain ⟨q,hq,hobj⟩:=S0.obj j oj hj' hd hl
   refine ⟨q,hle _ _ hq,?_⟩
   by_cases hqr : q.blk = r.blk
   ·by_cases hmj : mine oj = true
    ·obtain ⟨k1,k2⟩:=apart j oj q hj' hmj hq hqr
     cases oj with
     | cells cj ej ownj =>
      obtain ⟨cj',ej',fzj,p1,p2,p3,p4⟩:=CellsR.heap hobj
      rw [hqr,hold] at p1
      cases p1
      have hnj:=CellsR.n hobj
      have hlj:=CellsR.le hobj
      refine ⟨hnj,hlj,⟨c1,_,_,by rw [hqr]; exact hnew,by omega,fun k x hx=>?_,fun ho=>by rw [hcs]; exact p4 ho⟩,CellsR.mine hobj,CellsR.ext hobj,CellsR.flat hobj⟩
      obtain ⟨x',y1,y2⟩:=p3 k x hx
      have hk : k < cj.length:=(List.getElem?_eq_some_iff.1 hx).1
      exact ⟨x',by rw [hout _ (by omega)]; exact y1,y2.mono hle⟩
     | _=>simp [isC] at k1
    ·cases oj with
     | cells cj ej ownj =>
      have : ownj = false:=by simpa [mine] using hmj
      have:=(CellsR.ext hobj this).1
      omega
     | dead=>exact absurd rfl hd
     | _=>simp [mine] at hmj
   ·exact hobj.same hle (hother _ hqr)
 ·have key : ∀ j oj rj,(h.set i .dead).get j = some oj→mine oj = true→ρ.ext h.n ⟨r.blk,r.base + off,cs.length,r.cap - off,sz⟩ j = some rj→j ≠ h.n →
    rj.blk ≠ r.blk ∨ (isC oj = true ∧ (rj.base + rj.cap ≤ r.base ∨ r.base + r.cap ≤ rj.base)):=by
   intro j oj rj hj hm hrj hne
   rw [ext_old ρ _ hne] at hrj
   by_cases heq : rj.blk = r.blk
   ·exact .inr (apart j oj rj hj hm hrj heq)
   ·exact .inl heq
  rcases gnew a oa ha with ⟨rfl,rfl⟩ | ⟨hla,ha'⟩
  ·rcases gnew b ob hb' with ⟨rfl,rfl⟩ | ⟨hlb,hb''⟩
   ·exact absurd rfl hab
   ·rw [ext_new] at hra
    cases hra
    rcases key b ob rb hb'' mb hrb (Ne.symm hab) with k1 | ⟨k1,k2⟩
    ·exact .inl (Ne.symm k1)
    ·refine .inr ⟨rfl,k1,?_⟩
     dsimp only
     omega
  ·rcases gnew b ob hb' with ⟨rfl,rfl⟩ | ⟨hlb,hb''⟩
   ·rw [ext_new] at hrb
    cases hrb
    rcases key a oa ra ha' ma hra hab with k1 | ⟨k1,k2⟩
    ·exact .inl k1
    ·refine .inr ⟨k1,rfl,?_⟩
     dsimp only
     omega
   ·rw [ext_old ρ _ (by omega)] at hra hrb
    exact S0.sep a b oa ob ra rb hab ha' hb'' ma mb hra hrb
 ·obtain ⟨h1,h2⟩:=S.defs d hd
  refine ⟨h1,?_⟩
  have : d ≠ r.blk:=by
   rintro rfl
   rw [h2] at hold
   cases hold
  rw [hother _ this]; exact h2
 ·have hlt:=S0.lateLt hb
  rw [hn] at hlt
  rw [ext_old ρ _ (by omega),AH.get_alloc_old _ _ (by rw [hn]; exact hlt)]
  exact S0.late b ob hb
/-- Stores in a row, on the concrete side alone. -/
theorem stores_run : ∀ (vs : List Value) (blk o i : Nat) (w : World) (c : Array Value) (e : TypeId) (fz : Nat × Nat),w.heap[blk]? = some (.cells c e fz)→o + i + vs.length ≤ c.size →
  (∀ k,k < vs.length→¬ (fz.1 ≤ o + i + k ∧ o + i + k < fz.2))→(∀ v ∈ vs,v.oneCell' = true) →
  ∃ w1 c1,(storeCells ⟨blk,o,none⟩ vs i).run P w = .ok () w1 ∧ w1.heap[blk]? = some (.cells c1 e fz) ∧ c1.size = c.size ∧ w1.heap.size = w.heap.size ∧ w1.os = w.os ∧ w1.tape = w.tape ∧ w1.output = w.output ∧
   (∀ k,k ≠ blk→w1.heap[k]? = w.heap[k]?) ∧ (∀ k,(k < o + i ∨ o + i + vs.length ≤ k)→c1[k]? = c[k]?) ∧ (∀ (k : Nat) (v : Value),vs[k]? = some v→c1[o + i + k]? = some v):=by
 intro vs
 induction vs with
 | nil =>
  intro blk o i w c e fz hc _ _ _
  exact ⟨w,c,by simp [storeCells],hc,rfl,rfl,rfl,rfl,rfl,fun _ _=>rfl,fun _ _=>rfl,fun k v hk=>by simp at hk⟩
 | cons v vs ih =>
  intro blk o i w c e fz hc hle hf h1
  simp only [List.length_cons] at hle hf
  have hcell : w.cell? ⟨blk,o + i,none⟩ = some c[o + i]:=by
   unfold World.cell?
   simp only [hc,Option.isSome_none,Bool.false_eq_true,if_false]
   rw [Array.getElem?_eq_getElem (by omega)]
  have hfr : w.frozen? ⟨blk,o + i,none⟩ = false:=by
   unfold World.frozen?
   simp only [hc]
   have:=hf 0 (by omega)
   simpa using this
  have hc' : (w.setCell ⟨blk,o + i,none⟩ v).heap[blk]? = some (.cells (c.setIfInBounds (o + i) v) e fz):=by
   simp [World.setCell,Array.getElem?_modify,hc]
  obtain ⟨w1,c1,k1,k2,k3,k4,k5,k6,k7,k8,k9,k10⟩:=ih blk o (i + 1) (w.setCell ⟨blk,o + i,none⟩ v) _ e fz hc' (by simp; omega) (fun k hk=>by have:=hf (k + 1) (by omega); omega) (fun x hx=>h1 x (by simp [hx]))
  refine ⟨w1,c1,?_,k2,by simpa using k3,by simpa using k4,k5,k6,k7,fun k hk=>?_,fun k hk=>?_,fun k x hx=>?_⟩
  ·simp only [storeCells,Sem.run_bind,add_at]
   rw [run_store P w _ v .plain (h1 v (by simp))]
   simp only [hcell,hfr,Bool.false_eq_true,if_false,Result.andThen_ok]
   exact k1
  ·rw [k8 k hk,Below.heap_setCell w ⟨blk,o + i,none⟩ v k hk]
  ·simp only [List.length_cons] at hk
   rw [k9 k (by omega),Array.getElem?_setIfInBounds_ne (by omega)]
  ·cases k with
   | zero =>
    simp at hx
    subst hx
    rw [k9 _ (by omega)]
    simp only [Nat.add_zero]
    rw [Array.getElem?_setIfInBounds_self_of_lt (by omega)]
   | succ k =>
    have:=k10 k x (by simpa using hx)
    rw [← this]
    congr 1
    omega
end Go.Proofs.Ev
set_option linter.unusedVariables false
set_option linter.unusedSimpArgs false
namespace Go.Proofs.Ev
open Go Go.RowKit
variable {G : Code→Prop} {P : Program} {w0 : World} {ρ : Ren} {D : List Mk} {h : AH} {w : World}
theorem cellsOf_length {size n : Nat} {x : Value} {cs : List Value} (hc : cellsOf P size n x h = some cs) : cs.length = n * size ∨ (∃ s,x = .string s) ∧ cs.length = n:=by
 unfold cellsOf at hc
 split at hc
 ·split at hc
  ·cases hc; rename_i h0; subst h0; simp
  ·cases hc
 ·split at hc
  ·rename_i h0; cases hc; left; simp [h0]
  ·split at hc
   ·left
    unfold AH.row at hc
    split at hc
    ·split at hc
     ·cases hc; simp; omega
     ·cases hc
    ·cases hc
   ·cases hc
 ·split at hc
  ·cases hc
   rename_i s hn
   right
   refine ⟨⟨s,rfl⟩,?_⟩
   simp only [Array.toList_map,List.length_map,Array.length_toList]
   have : (s.extract 0 n).data.size = (s.extract 0 n).size:=rfl
   rw [this,ByteArray.size_extract]
   omega
  ·cases hc
 ·cases hc
theorem LsR.append {a a' b b' : List Value} (h1 : LsR ρ a a') (h2 : LsR ρ b b') : LsR ρ (a ++ b) (a' ++ b'):=by
 induction h1 with
 | nil=>exact h2
 | cons hx _ ih=>exact .cons hx ih
theorem LsR.oneCell' {a a' : List Value} (h1 : LsR ρ a a') (ha : a.all oneCell = true) : ∀ v ∈ a',v.oneCell' = true:=by
 induction h1 with
 | nil=>intro v hv; cases hv
 | cons hx _ ih =>
  simp only [List.all_cons,Bool.and_eq_true] at ha
  intro v hv
  rcases List.mem_cons.1 hv with rfl | hv
  ·exact hx.oneCell ha.1
  ·exact ih ha.2 v hv
/-- The model's append, where the slice is not long enough for new memory and where it is. -/
theorem append_run {ts : Array TypeId} {t e : TypeId} {u : TypeDesc} {size bytes m n c' : Nat} {z : Value} {base' : Option Addr} {x' : Value} {new' old' : List Value}
  (h0 : ts[0]?.bind (elemT P) = some e) (h1 : ts[1]?.bind P.underlying = some u) (hu : isIntT u = false)
  (hs : szT P e = some size) (hb : bytesT P e = some bytes) (hz : zeroT P e = some z) (hbd : (n + m + 1024) * (bytes + 1) ≤ 2 ^ 46)
  (hl : ∀ w,(Builtin.lenOf x').run P w = .ok m w)
  (hlt : c' < n + m)
  (hnew : (Builtin.firstCells size m x').run P w.drew = .ok new'.toArray w.drew) (hold : (Builtin.firstCells size n (.slice base' n c')).run P w.drew = .ok old'.toArray w.drew) :
  ∃ newCap,n + m ≤ newCap ∧ (Builtin.append_ ts t #[.slice base' n c',x']).run P w =
   .ok (.slice (some ⟨w.heap.size,0,none⟩) (n + m) newCap) (w.drew.alloc (.cells (old'.toArray ++ new'.toArray ++ Builtin.zeroCells z.cells (newCap - (n + m))) e (0,0))):=by
 obtain ⟨info,hi,hib⟩:=run_bytesT hb w
 have hi' : (typeInfo e).run P w.drew = .ok info w.drew:=by
  have : ∃ i,P.info? e = some i:=by
   unfold szT at hs
   cases hq : P.info? e with
   | none=>rw [hq] at hs; cases hs
   | some i=>exact ⟨i,rfl⟩
  obtain ⟨i,hq⟩:=this
  simp [typeInfo,hq] at hi ⊢
  exact hi
 cases ht0 : (ts[0]? : Option TypeId) with
 | none=>rw [ht0] at h0; cases h0
 | some t0 =>
  rw [ht0] at h0
  have hu0:=elem_of (P:=P) (t:=t0) h0
  cases ht1 : (ts[1]? : Option TypeId) with
  | none=>rw [ht1] at h1; cases h1
  | some t1 =>
   rw [ht1] at h1
   have hu1 : P.underlying t1 = some u:=h1
   generalize hcap : Question.cut (.appendCap (n + m) c' e) (w.tape w.drawn (.appendCap (n + m) c' e)) = newCap
   refine ⟨newCap,by rw [← hcap]; simp [Question.cut],?_⟩
   have r1 : (choose (.appendCap (n + m) c' e)).run P w = .ok newCap w.drew:=by
    simp only [run_choose,Question.forced,Bool.false_eq_true,if_false,hcap]; rfl
   have hcb:=cap_bound hlt
   have g1 : (n + m) * (bytes + 1) + 1024 * (bytes + 1) ≤ 2 ^ 46:=by rw [← Nat.add_mul]; exact hbd
   have g2 : Builtin.nextslicecap (n + m) c' * bytes ≤ (2 * (n + m) + 192) * bytes:=Nat.mul_le_mul_right _ hcb
   have g3 : (2 * (n + m) + 192) * bytes ≤ 2 * ((n + m) * (bytes + 1) + 1024 * (bytes + 1)):=by
    have : (2 * (n + m) + 192) * bytes = 2 * ((n + m) * bytes) + 192 * bytes:=by rw [Nat.add_mul,Nat.mul_assoc]
    rw [this,Nat.mul_add (n + m) bytes 1,Nat.mul_add 1024 bytes 1]
    omega
   have k2 : ¬ (Builtin.nextslicecap (n + m) c' * bytes > 2 ^ 48):=by omega
   have k1 : ¬ (((n + m : Nat) : Int) > IntKind.i64.max):=by
    have : (n + m) * 1 ≤ (n + m) * (bytes + 1):=Nat.mul_le_mul_left _ (by omega)
    have : IntKind.i64.max = 9223372036854775807:=by decide
    omega
   unfold Builtin.append_
   simp only [List.getElem?_toArray,List.getElem?_cons_zero,List.getElem?_cons_succ,ht0,ht1,Sem.run_bind,run_und hu0,Result.andThen_ok,run_sz hs,run_und hu1,Sem.run_pure]
   cases u with
   | int k=>simp [isIntT] at hu
   | _ =>
    simp only [Bool.false_eq_true,if_false,hl,Result.andThen_ok,Nat.not_le.2 hlt,Sem.run_bind,hi,hib,k1,k2,false_and,r1,run_askRoom,hi',hold,hnew,Sem.run_pure,Bool.not_false,if_true,run_zero hz,newRow,run_newObj,Sem.run_ite]
    rfl
/-- The model's append within the capacity. -/
theorem append_in {ts : Array TypeId} {t e : TypeId} {u : TypeDesc} {size m n c' : Nat} {base' : Option Addr} {x' : Value} {new' : List Value} {w1 : World}
  (h0 : ts[0]?.bind (elemT P) = some e) (h1 : ts[1]?.bind P.underlying = some u) (hu : isIntT u = false) (hs : szT P e = some size)
  (hl : ∀ w,(Builtin.lenOf x').run P w = .ok m w) (hle : n + m ≤ c') (hnew : (Builtin.firstCells size m x').run P w = .ok new'.toArray w)
  (hst : match base' with | none=>w1 = w | some a=>(storeCells (a.add (n * size)) new').run P w = .ok () w1) :
  (Builtin.append_ ts t #[.slice base' n c',x']).run P w = .ok (.slice base' (n + m) c') w1:=by
 cases ht0 : (ts[0]? : Option TypeId) with
 | none=>rw [ht0] at h0; cases h0
 | some t0 =>
  rw [ht0] at h0
  have hu0:=elem_of (P:=P) (t:=t0) h0
  cases ht1 : (ts[1]? : Option TypeId) with
  | none=>rw [ht1] at h1; cases h1
  | some t1 =>
   rw [ht1] at h1
   have hu1 : P.underlying t1 = some u:=h1
   unfold Builtin.append_
   simp only [List.getElem?_toArray,List.getElem?_cons_zero,List.getElem?_cons_succ,ht0,ht1,Sem.run_bind,run_und hu0,Result.andThen_ok,run_sz hs,run_und hu1,Sem.run_pure]
   cases u with
   | int k=>simp [isIntT] at hu
   | _ =>
    simp only [Bool.false_eq_true,if_false,hl,Result.andThen_ok,hle,if_true,Sem.run_bind,hnew,Bool.not_false]
    cases base' with
    | none=>simp only at hst; subst hst; rfl
    | some a=>simp only at hst ⊢; simp only [Sem.run_bind,hst,Result.andThen_ok]; rfl
/-- 'append(nil, make(l, m)...)'. -/
theorem append_int_run {ts : Array TypeId} {t e : TypeId} {k0 k : IntKind} {size bytes m : Nat} {z : Value}
  (h0 : ts[0]?.bind (elemT P) = some e) (h1 : ts[1]?.bind P.underlying = some (.int k0)) (hs : szT P e = some size) (hpos : 0 < size) (hb : bytesT P e = some bytes) (hz : zeroT P e = some z) (hm : 0 < m) (hbd : (m + 1024) * (bytes + 1) ≤ 2 ^ 46) :
  ∃ newCap,m ≤ newCap ∧ (Builtin.append_ ts t #[.slice none 0 0,.int k (m : Int)]).run P w =
   .ok (.slice (some ⟨w.heap.size,0,none⟩) m newCap) (w.drew.alloc (.cells (#[] ++ Builtin.zeroCells z.cells m ++ Builtin.zeroCells z.cells (newCap - m)) e (0,0))):=by
 obtain ⟨info,hi,hib⟩:=run_bytesT hb w
 have hi' : (typeInfo e).run P w.drew = .ok info w.drew:=by
  have : ∃ i,P.info? e = some i:=by
   unfold szT at hs
   cases hq : P.info? e with
   | none=>rw [hq] at hs; cases hs
   | some i=>exact ⟨i,rfl⟩
  obtain ⟨i,hq⟩:=this
  simp [typeInfo,hq] at hi ⊢
  exact hi
 cases ht0 : (ts[0]? : Option TypeId) with
 | none=>rw [ht0] at h0; cases h0
 | some t0 =>
  rw [ht0] at h0
  have hu0:=elem_of (P:=P) (t:=t0) h0
  cases ht1 : (ts[1]? : Option TypeId) with
  | none=>rw [ht1] at h1; cases h1
  | some t1 =>
   rw [ht1] at h1
   have hu1 : P.underlying t1 = some (.int k0):=h1
   generalize hcap : Question.cut (.appendCap m 0 e) (w.tape w.drawn (.appendCap m 0 e)) = newCap
   refine ⟨newCap,by rw [← hcap]; simp [Question.cut],?_⟩
   have r1 : (choose (.appendCap m 0 e)).run P w = .ok newCap w.drew:=by
    simp only [run_choose,Question.forced,Bool.false_eq_true,if_false,hcap]; rfl
   have hcb:=cap_bound (show 0 < m by omega)
   have g1 : m * (bytes + 1) + 1024 * (bytes + 1) ≤ 2 ^ 46:=by rw [← Nat.add_mul]; exact hbd
   have g2 : Builtin.nextslicecap m 0 * bytes ≤ (2 * m + 192) * bytes:=Nat.mul_le_mul_right _ hcb
   have g3 : (2 * m + 192) * bytes ≤ 2 * (m * (bytes + 1) + 1024 * (bytes + 1)):=by
    have : (2 * m + 192) * bytes = 2 * (m * bytes) + 192 * bytes:=by rw [Nat.add_mul,Nat.mul_assoc]
    rw [this,Nat.mul_add m bytes 1,Nat.mul_add 1024 bytes 1]
    omega
   have k2 : ¬ (Builtin.nextslicecap m 0 * bytes > 2 ^ 48):=by omega
   have hm46 : m ≤ 2 ^ 46:=by
    have : m * 1 ≤ m * (bytes + 1):=Nat.mul_le_mul_left _ (by omega)
    omega
   have k1 : ¬ ((m : Int) > IntKind.i64.max):=by
    have : IntKind.i64.max = 9223372036854775807:=by decide
    omega
   have kw : IntKind.i64.wrap (m : Int) = (m : Int):=by
    unfold IntKind.wrap
    simp [IntKind.signed,IntKind.bits]
    omega
   have k3 : ¬ ((m : Int) < 0):=by omega
   have k4 : ¬ ((m : Int) * (bytes : Int) > 2 ^ 48):=by
    have : m * bytes ≤ m * (bytes + 1):=Nat.mul_le_mul_left _ (by omega)
    have h5 : ((m * bytes : Nat) : Int) = (m : Int) * (bytes : Int):=by simp
    rw [← h5]
    have : m * bytes ≤ 2 ^ 46:=by omega
    omega
   have k5 : ¬ (m * size = 0):=by
    intro hq
    rcases Nat.mul_eq_zero.1 hq with hq | hq <;> omega
   have k6 : ¬ (m ≤ 0):=by omega
   have ka : (asInt (.int k (m : Int))).run P w = .ok (m : Int) w:=rfl
   unfold Builtin.append_
   simp only [List.getElem?_toArray,List.getElem?_cons_zero,List.getElem?_cons_succ,ht0,ht1,Sem.run_bind,run_und hu0,Result.andThen_ok,run_sz hs,run_und hu1,Sem.run_pure,if_true,ka,kw,k3,if_false,hi,hib,k4,Int.toNat_natCast,k6,k1,k2,r1,run_askRoom,hi',Bool.not_true,Bool.false_eq_true,k5,run_zero hz,newRow,run_newObj,Sem.run_ite,false_and,or_false,Nat.zero_add,Builtin.firstCells]
   rfl
theorem append_zero_run {ts : Array TypeId} {t e : TypeId} {k0 k : IntKind} {size bytes : Nat}
  (h0 : ts[0]?.bind (elemT P) = some e) (h1 : ts[1]?.bind P.underlying = some (.int k0)) (hs : szT P e = some size) (hb : bytesT P e = some bytes) :
  (Builtin.append_ ts t #[.slice none 0 0,.int k 0]).run P w = .ok (.slice none 0 0) w:=by
 obtain ⟨info,hi,hib⟩:=run_bytesT hb w
 cases ht0 : (ts[0]? : Option TypeId) with
 | none=>rw [ht0] at h0; cases h0
 | some t0 =>
  rw [ht0] at h0
  have hu0:=elem_of (P:=P) (t:=t0) h0
  cases ht1 : (ts[1]? : Option TypeId) with
  | none=>rw [ht1] at h1; cases h1
  | some t1 =>
   rw [ht1] at h1
   have hu1 : P.underlying t1 = some (.int k0):=h1
   have kw : IntKind.i64.wrap 0 = 0:=by decide
   have ka : (asInt (.int k 0)).run P w = .ok 0 w:=rfl
   have k3 : ¬ ((0 : Int) < 0):=by omega
   have k4 : ¬ ((0 : Int) * (bytes : Int) > 2 ^ 48):=by omega
   unfold Builtin.append_
   simp only [List.getElem?_toArray,List.getElem?_cons_zero,List.getElem?_cons_succ,ht0,ht1,Sem.run_bind,run_und hu0,Result.andThen_ok,run_sz hs,run_und hu1,Sem.run_pure,if_true,ka,kw,k3,if_false,hi,hib,k4,Nat.zero_mul,Nat.le_refl,Int.toNat_zero,Nat.add_zero,Bool.not_true,Bool.false_eq_true]
theorem flat_zero (z : List Value) (m : Nat) : (List.replicate m z).flatten.length = m * z.length:=by
 induction m with
 | zero=>simp
 | succ m ih=>rw [List.replicate_succ,List.flatten_cons,List.length_append,ih,Nat.succ_mul,Nat.add_comm]
theorem appendN_sim (S : Sim G P w0 ρ D h w) {ts : Array TypeId} {t e : TypeId} {k0 k : IntKind} {m : Int} {v : Value} {h2 : AH} (h0 : ts[0]?.bind (elemT P) = some e) (h1 : ts[1]?.bind P.underlying = some (.int k0)) (hp : pGrowN P e m h = some (v,h2)) :
  Does G P w0 ρ D w (Builtin.append_ ts t #[.slice none 0 0,.int k m]) v h2:=by
 unfold pGrowN at hp
 split at hp
 case h_2=>cases hp
 rename_i size bytes z hsz hb hz
 split at hp
 ·rename_i hm
  subst hm
  cases hp
  exact ⟨ρ,_,w,append_zero_run h0 h1 hsz hb,Ren.le_refl _,.nilSlice _ _,S⟩
 ·rename_i hm
  split at hp
  case isFalse=>cases hp
  rename_i hcond
  obtain ⟨hm0,hbd,hzp,hzs⟩:=hcond
  obtain ⟨n,rfl⟩:=Int.eq_ofNat_of_zero_le hm0
  simp only [Int.toNat_natCast] at hp hbd
  simp only [Option.some.injEq,Prod.mk.injEq] at hp
  obtain ⟨rfl,rfl⟩:=hp
  obtain ⟨newCap,g1,g2⟩:=append_int_run (w:=w) (t:=t) (k:=k) h0 h1 hsz (by omega) hb hz (m:=n) (by omega) hbd
  have hzl : z.cells.toList.length = size + 1:=by rw [Array.length_toList]; exact hzs
  have hsize : (#[] ++ Builtin.zeroCells z.cells n ++ Builtin.zeroCells z.cells (newCap - n)).size = newCap * (size + 1):=by
   rw [Array.size_append,Array.size_append,zeroCells_size,zeroCells_size,hzs,Array.size_empty,Nat.zero_add,← Nat.add_mul]
   congr 1
   omega
  have hlen : ((List.replicate n z.cells.toList).flatten).length = n * (size + 1):=by rw [flat_zero,hzl]
  have hle2 : n * (size + 1) ≤ newCap * (size + 1):=Nat.mul_le_mul_right _ g1
  have N:=new_sim (e:=e) (e':=e) S.drew (cs:=(List.replicate n z.cells.toList).flatten) (c':=#[] ++ Builtin.zeroCells z.cells n ++ Builtin.zeroCells z.cells (newCap - n)) hsz (by rw [hsize,hlen]; exact hle2)
   (fun j x hj=>by
    have Z:=zeros_sim (ρ:=ρ) (z:=z) (size:=z.cells.size) (c:=n) rfl hzp z.cells (fun _=>rfl)
    obtain ⟨v',q1,q2⟩:=Z.get hj
    refine ⟨v',?_,q2⟩
    have hz2 : Builtin.zeroCells z.cells n = (Array.range (n * z.cells.size)).map (z.cells[· % z.cells.size]!):=rfl
    rw [← hz2,Array.getElem?_toList] at q1
    have hk' : j < (Builtin.zeroCells z.cells n).size:=(Array.getElem?_eq_some_iff.1 q1).1
    rw [Array.empty_append,Array.getElem?_append_left hk']
    exact q1) (0,0) (.inl rfl)
  refine ⟨_,_,_,g2,ext_le S _,new_slice ρ h.n w.heap.size _ rfl (.inr ⟨g1,Nat.succ_pos _,?_,?_⟩),N⟩
  ·exact hlen.symm
  ·dsimp only; rw [hsize]; exact Nat.le_refl _
theorem append_sim (S : Sim G P w0 ρ D h w) {ts : Array TypeId} {t : TypeId} {s s' x x' v : Value} {h2 : AH} (hs : VR ρ s s') (hx : VR ρ x x') (hp : pAppend P ts s x h = some (v,h2)) :
  Does G P w0 ρ D w (Builtin.append_ ts t #[s',x']) v h2:=by
 unfold pAppend at hp
 split at hp
 case h_2=>cases hp
 rename_i e u base n c h0 h1
 split at hp
 case isTrue hu =>
  cases u with
  | int k0 =>
   split at hp
   ·cases hs
    cases hx
    exact appendN_sim S h0 h1 hp
   ·cases hp
  | _=>cases hu
 rename_i hu
 simp only [Bool.not_eq_true] at hu
 split at hp
 case h_2=>cases hp
 rename_i size bytes m z hsz hb hm hz
 split at hp
 case h_2=>cases hp
 rename_i new old hnew hold
 have hl:=fun w=>lenOf_run (P:=P) hx hm w
 obtain ⟨new',kn1,kn2⟩:=firstCells_sim S hx hnew
 split at hp
 ·rename_i hle
  -- within the capacity that the evaluator knows
  split at hp
  ·cases hp
   cases hs
   exact ⟨ρ,_,w,append_in h0 h1 hu hsz hl hle kn1 rfl,Ren.le_refl _,.nilSlice _ _,S⟩
  ·rename_i a
   have hres : ∀ a' c',VR ρ (.slice (some a) n c) (.slice (some a') n c')→n + m ≤ c→VR ρ (.slice (some a) (n + m) c) (.slice (some a') (n + m) c'):=by
    intro a' c' hv hle
    cases hv with
    | slice0 =>
     obtain rfl : m = 0:=by omega
     exact .slice0 _ _
    | slice _ _ _ _ _ r p1 p2 p3=>exact .slice _ _ _ _ _ r p1 p2 p3
   have hcc : ∀ a' c',VR ρ (.slice (some a) n c) (.slice (some a') n c')→c ≤ c':=by
    intro a' c' hv
    cases hv with
    | slice0=>exact Nat.le_refl _
    | slice _ _ _ _ _ r p1 p2 p3=>rcases p3 with rfl | p3 <;> omega
   have hform : ∃ a' c',s' = .slice (some a') n c':=by cases hs <;> exact ⟨_,_,rfl⟩
   obtain ⟨a',c',rfl⟩:=hform
   have hle':=hcc a' c' hs
   split at hp
   ·rename_i hem
    cases hp
    have : new = []:=by simpa using hem
    subst this
    cases kn2
    exact ⟨ρ,_,w,append_in (w1:=w) h0 h1 hu hsz hl (by omega) kn1 (by simp [storeCells]),Ren.le_refl _,hres a' c' hs hle,S⟩
   ·rename_i hem
    split at hp
    case isFalse=>cases hp
    rename_i hone
    cases hput : h.put a.block (a.off + n * (size + 1)) new with
    | none=>rw [hput] at hp; cases hp
    | some h3 =>
     rw [hput] at hp
     cases hp
     have hlen:=cellsOf_length hnew
     cases hs with
     | slice0 =>
      exfalso
      obtain rfl : m = 0:=by omega
      rcases hlen with hlen | ⟨_,hlen⟩ <;> (simp at hlen; subst hlen; simp at hem)
     | slice _ _ _ _ _ r p1 p2 p3 =>
      obtain ⟨_,r2,hρ2,rfl⟩:=p1
      rw [p2] at hρ2
      cases hρ2
      obtain ⟨w2,q1,q2⟩:=put_sim new new' S hput p2 kn2 hone 0 (r.base + a.off + n * (size + 1)) (by omega)
      refine ⟨ρ,_,w2,append_in h0 h1 hu hsz hl (by omega) kn1 (by show (storeCells ((⟨r.blk,r.base + a.off,none⟩ : Addr).add (n * (size + 1))) new').run P w = _; rw [add_at]; exact q1),Ren.le_refl _,.slice _ _ _ _ _ r ⟨by assumption,r,p2,rfl⟩ p2 p3,q2⟩
 ·rename_i hgt
  split at hp
  case isFalse=>cases hp
  rename_i hcond
  simp only [Bool.and_eq_true,decide_eq_true_eq,beq_iff_eq] at hcond
  obtain ⟨⟨⟨⟨⟨hbd,hzp⟩,hzs⟩,hok,hoffk⟩,hone⟩,hlnew⟩:=hcond
  simp only [Option.some.injEq,Prod.mk.injEq] at hp
  obtain ⟨rfl,rfl⟩:=hp
  have hlold : old.length = n * (size + 1):=by
   rcases cellsOf_length hold with h9 | ⟨⟨_,h9⟩,_⟩
   ·exact h9
   ·cases h9
  have hlen : (old ++ new).length = (n + m) * (size + 1):=by rw [List.length_append,hlold,hlnew,Nat.add_mul]
  obtain ⟨new2,kd1,kd2⟩:=firstCells_sim S.drew hx hnew
  -- new memory on both sides
  have fresh : ∀ base' c',s' = .slice base' n c'→c' < n + m→∀ h3 : AH,h3.n = h.n→Sim G P w0 ρ D h3 w →
    Does G P w0 ρ D w (Builtin.append_ ts t #[s',x']) (.slice (some ⟨h.n,0,none⟩) (n + m) (n + m)) (h3.alloc (.cells (old ++ new) e true)):=by
   intro base' c' hform hlt h3 hn3 S3
   subst hform
   obtain ⟨old',ko1,ko2⟩:=firstCells_sim S.drew hs hold
   obtain ⟨newCap,g1,g2⟩:=append_run (t:=t) h0 h1 hu hsz hb hz hbd hl hlt kd1 ko1
   have kk:=ko2.append kd2
   have hl' : (old' ++ new2).length = (n + m) * (size + 1):=by rw [← kk.length,hlen]
   have hsize : (old'.toArray ++ new2.toArray ++ Builtin.zeroCells z.cells (newCap - (n + m))).size = newCap * (size + 1):=by
    rw [Array.size_append,Array.size_append,zeroCells_size,hzs,List.size_toArray,List.size_toArray,← List.length_append,hl',← Nat.add_mul]
    congr 1
    omega
   have hle2 : (n + m) * (size + 1) ≤ newCap * (size + 1):=Nat.mul_le_mul_right _ g1
   have N:=new_sim (e:=e) (e':=e) S3.drew (cs:=old ++ new) (c':=old'.toArray ++ new2.toArray ++ Builtin.zeroCells z.cells (newCap - (n + m))) hsz (by rw [hsize,hlen]; exact hle2)
    (fun k v hk=>by
     obtain ⟨v',q1,q2⟩:=kk.get hk
     refine ⟨v',?_,q2⟩
     have hk' : k < (old' ++ new2).length:=(List.getElem?_eq_some_iff.1 q1).1
     rw [Array.getElem?_append_left (by simpa using hk')]
     simpa using q1) (0,0) (.inl rfl)
   rw [hn3] at N
   refine ⟨_,_,_,g2,ext_le S _,new_slice ρ h.n w.heap.size _ rfl (.inr ⟨g1,Nat.succ_pos _,?_,?_⟩),N⟩
   ·exact hlen.symm
   ·dsimp only; rw [hsize]; exact Nat.le_refl _
  cases base with
  | none =>
   cases hs
   exact fresh none c rfl (by omega) h rfl S
  | some a =>
   dsimp only
   have S3:=kill_sim S a.block (a.off + c * (size + 1))
   cases hs with
   | slice0=>exact fresh _ 0 rfl (by omega) _ (kill_n _ _ _) S3
   | slice _ a' _ _ c' r p1 p2 p3 =>
    by_cases hlt : c' < n + m
    ·exact fresh _ c' rfl hlt _ (kill_n _ _ _) S3
    ·obtain ⟨_,r2,hρ2,rfl⟩:=p1
     rw [p2] at hρ2
     cases hρ2
     rcases p3 with rfl | ⟨j1,j2,j3,j4⟩
     ·exact absurd (by omega) hlt
     unfold szOk at hok
     simp only at hok
     split at hok
     case h_2=>cases hok
     rename_i cc ee own hg
     obtain ⟨rr,q1,q2⟩:=S.cells p2 hg
     rw [p2] at q1
     cases q1
     cases own with
     | false =>
      exfalso
      have hx:=(q2.ext rfl).2
      rw [hx] at j4
      have : c' * r.sz ≤ c * r.sz:=by omega
      have:=Nat.le_of_mul_le_mul_right this j2
      omega
     | true =>
      have hz9:=(q2.mine rfl).2
      simp only [Bool.not_true,Bool.false_or,beq_iff_eq] at hok
      rw [hz9] at hok
      simp only [Option.some.injEq] at hok
      rw [hok] at j3 j4
      have hn9:=q2.n
      obtain ⟨c0,e0,fz,f1,f2,f3,f4⟩:=q2.heap
      have hkill : kill h a.block (a.off + c * (size + 1)) = h.set a.block .dead:=by
       unfold kill
       rw [hg]
       simp only
       rw [if_pos (by omega)]
      rw [hkill]
      have hlt' : n + m ≤ c':=by omega
      have hcm : (n + m) * (size + 1) ≤ c' * (size + 1):=Nat.mul_le_mul_right _ hlt'
      have hcm2 : (n + m) * (size + 1) = n * (size + 1) + m * (size + 1):=Nat.add_mul _ _ _
      have hln' : new'.length = m * (size + 1):=by rw [← kn2.length,hlnew]
      obtain ⟨w1,c1,b1,b2,b3,b4,b5,b6,b7,b8,b9,b10⟩:=stores_run (P:=P) new' r.blk (r.base + a.off + n * (size + 1)) 0 w c0 e0 fz f1 (by omega)
       (fun k hk=>by have:=f4 rfl; omega) (kn2.oneCell' hone)
      have hb9 : Below w0.heap.size w0 w1:=S.below.trans ⟨b5,b6,b7,by omega,fun k hk=>b8 k (by have:=(q2.mine rfl).1; omega)⟩
      have h00 : a.off = 0:=by simpa [offOk] using hoffk
      have R:=S.regrow hg p2 f1 b2 b4 b3 hb9 b8 (fun k hk=>b9 k (by omega)) (off:=a.off) (cs:=old ++ new) (sz:=size + 1) (el:=e) (by omega) hsz h00 (fun k v hk=>by
       rw [List.getElem?_append] at hk
       split at hk
       ·rename_i hko
        rw [hlold] at hko
        have hrow : h.row a.block a.off (n * (size + 1)) = some old:=by
         unfold cellsOf at hold
         simp only at hold
         split at hold
         ·omega
         ·split at hold
          ·exact hold
          ·cases hold
        unfold AH.row at hrow
        rw [hg] at hrow
        simp only at hrow
        split at hrow
        case isFalse=>cases hrow
        cases hrow
        rw [List.getElem?_take,if_pos hko,List.getElem?_drop] at hk
        obtain ⟨v',y1,y2⟩:=f3 _ _ hk
        refine ⟨v',?_,y2⟩
        rw [b9 _ (by omega),← y1]
        congr 1
        omega
       ·rename_i hko
        rw [hlold] at hko
        rw [hlold] at hk
        obtain ⟨v',y1,y2⟩:=kn2.get hk
        refine ⟨v',?_,y2⟩
        have:=b10 _ _ y1
        rw [← this]
        congr 1
        omega)
      refine ⟨_,_,w1,append_in h0 h1 hu hsz hl hlt' kn1 (by show (storeCells ((⟨r.blk,r.base + a.off,none⟩ : Addr).add (n * (size + 1))) new').run P w = _; rw [add_at]; exact b1),ext_le S _,?_,R⟩
      refine .slice _ _ _ _ _ _ ⟨rfl,_,ext_new _ _ _,by simp⟩ (ext_new _ _ _) (.inr ⟨hlt',Nat.succ_pos _,?_,?_⟩)
      ·dsimp only; rw [hlen]; omega
      ·dsimp only; omega
theorem copy_sim (S : Sim G P w0 ρ D h w) {ts : Array TypeId} {t : TypeId} {d d' x x' v : Value} {h2 : AH} (hd : VR ρ d d') (hx : VR ρ x x') (hp : pCopy P ts d x h = some (v,h2)) :
  Does G P w0 ρ D w (Builtin.copy_ ts t #[d',x']) v h2:=by
 unfold pCopy at hp
 split at hp
 case h_2=>cases hp
 rename_i e base n c m h0 hm
 split at hp
 case h_2=>cases hp
 rename_i size hsz
 split at hp
 case h_2=>cases hp
 rename_i cs hcs
 have hl:=lenOf_run (P:=P) hx hm w
 obtain ⟨cs',k1,k2⟩:=firstCells_sim S hx hcs
 have hform : ∃ base' c',d' = .slice base' n c' ∧ (base = none→base' = none) ∧ (∀ a,base = some a→∃ a',base' = some a' ∧ ((n = 0 ∧ c = 0) ∨ AddrR ρ a a')):=by
  cases hd with
  | nilSlice=>exact ⟨none,c,rfl,fun _=>rfl,fun a ha=>(by cases ha)⟩
  | slice0=>exact ⟨_,_,rfl,(fun h9=>nomatch h9),fun a ha=>⟨_,rfl,.inl ⟨rfl,rfl⟩⟩⟩
  | slice _ _ _ _ _ r p1 p2 p3=>exact ⟨_,_,rfl,(fun h9=>nomatch h9),fun a ha=>(by cases ha; exact ⟨_,rfl,.inr p1⟩)⟩
 obtain ⟨base',c',rfl,hf1,hf2⟩:=hform
 have run : ∀ w1,(match base' with | none=>w1 = w | some a=>(storeCells a cs').run P w = .ok () w1)→(Builtin.copy_ ts t #[.slice base' n c',x']).run P w = .ok (goInt (min m n : Nat)) w1:=by
  intro w1 hw1
  cases ht0 : (ts[0]? : Option TypeId) with
  | none=>rw [ht0] at h0; cases h0
  | some t0 =>
   rw [ht0] at h0
   have hu0:=elem_of (P:=P) (t:=t0) h0
   unfold Builtin.copy_
   simp only [List.getElem?_toArray,List.getElem?_cons_zero,List.getElem?_cons_succ,ht0,Sem.run_bind,run_und hu0,Result.andThen_ok,run_sz hsz,hl,Sem.run_pure]
   have hmin : Nat.min m n = min m n:=rfl
   rw [hmin,k1]
   simp only [Result.andThen_ok]
   cases base' with
   | none=>simp only at hw1; subst hw1; rfl
   | some a=>simp only at hw1 ⊢; simp only [Sem.run_bind,hw1,Result.andThen_ok]; rfl
 split at hp
 ·simp only [Option.some.injEq,Prod.mk.injEq] at hp
  obtain ⟨rfl,rfl⟩:=hp
  rw [hf1 rfl]
  rw [hf1 rfl] at run
  exact ⟨ρ,_,w,run w rfl,Ren.le_refl _,.int _ _,S⟩
 ·rename_i a
  obtain ⟨a',rfl,ha⟩:=hf2 a rfl
  split at hp
  ·rename_i hem
   simp only [Option.some.injEq,Prod.mk.injEq] at hp
   obtain ⟨rfl,rfl⟩:=hp
   have : cs = []:=by simpa using hem
   subst this
   cases k2
   exact ⟨ρ,_,w,run w (by simp [storeCells]),Ren.le_refl _,.int _ _,S⟩
  ·rename_i hem
   split at hp
   case isFalse=>cases hp
   rename_i hone
   cases hput : h.put a.block a.off cs with
   | none=>rw [hput] at hp; cases hp
   | some h3 =>
    rw [hput] at hp
    simp only [Option.map_some,Option.some.injEq,Prod.mk.injEq] at hp
    obtain ⟨rfl,rfl⟩:=hp
    rcases ha with ⟨rfl,_⟩ | ⟨_,r,hρ,rfl⟩
    ·exfalso
     have:=cellsOf_length hcs
     simp at this
     rcases this with h9 | ⟨_,h9⟩ <;> (subst h9; simp at hem)
    ·obtain ⟨w2,q1,q2⟩:=put_sim cs cs' S hput hρ k2 hone 0 (r.base + a.off) (by omega)
     exact ⟨ρ,_,w2,run w2 q1,Ren.le_refl _,.int _ _,q2⟩
theorem zeroCells_eq (z : Array Value) (n : Nat) : Builtin.zeroCells z n = (Array.range (n * z.size)).map (z[· % z.size]!):=rfl
theorem clear_sim (S : Sim G P w0 ρ D h w) {ts : Array TypeId} {t : TypeId} {x x' : Value} {h2 : AH} (hx : VR ρ x x') (hp : pClear P ts x h = some h2) :
  ∃ w',(Builtin.clear_ ts t #[x']).run P w = .ok (.tuple #[]) w' ∧ Sim G P w0 ρ D h2 w':=by
 unfold pClear at hp
 split at hp
 ·rename_i e n c h0
  cases hp
  cases ht0 : (ts[0]? : Option TypeId) with
  | none=>rw [ht0] at h0; cases h0
  | some t0 =>
   rw [ht0] at h0
   have hu0:=elem_of (P:=P) (t:=t0) h0
   cases hx
   exact ⟨w,by simp [Builtin.clear_,ht0,run_und hu0],S⟩
 ·rename_i e a n c h0
  cases ht0 : (ts[0]? : Option TypeId) with
  | none=>rw [ht0] at h0; cases h0
  | some t0 =>
   rw [ht0] at h0
   have hu0:=elem_of (P:=P) (t:=t0) h0
   split at hp
   ·rename_i hn
    cases hp
    subst hn
    cases hx <;> exact ⟨w,by simp [Builtin.clear_,ht0,run_und hu0],S⟩
   ·rename_i hn
    split at hp
    case h_2=>cases hp
    rename_i z hz
    split at hp
    case isFalse=>cases hp
    rename_i hzp
    cases hx with
    | slice0=>exact absurd rfl hn
    | slice _ a' _ _ c' r p1 p2 p3 =>
     obtain ⟨_,r2,hρ,rfl⟩:=p1
     have hz1:=zeros_sim (ρ:=ρ) (z:=z) (c:=n) rfl hzp z.cells (fun _=>rfl)
     have hone : ((List.replicate n z.cells.toList).flatten).all oneCell = true:=by
      refine List.all_eq_true.2 fun v hv=>?_
      simp only [List.mem_flatten,List.mem_replicate] at hv
      obtain ⟨l,⟨_,rfl⟩,hv⟩:=hv
      have:=List.all_eq_true.1 hzp v hv
      cases v <;> simp_all [plain0,oneCell]
     obtain ⟨w2,q1,q2⟩:=put_sim _ _ S hp hρ hz1 hone 0 (r2.base + a.off) (by omega)
     refine ⟨w2,?_,q2⟩
     cases n with
     | zero=>exact absurd rfl hn
     | succ n=>simp [Builtin.clear_,ht0,run_und hu0,run_zero hz,zeroCells_eq] at q1 ⊢; rw [q1]; rfl
 ·cases hp
end Go.Proofs.Ev
set_option linter.unusedVariables false
set_option linter.unusedSimpArgs false
namespace Go.Proofs.Ev
open Go Go.RowKit
variable {G : Code→Prop} {P : Program} {w0 : World} {ρ : Ren} {D : List Mk} {h : AH} {w : World}
/-- What a call leads to, and what it comes to. -/
def CallPost (G : Code→Prop) (P : Program) (w0 : World) (ρ : Ren) (D : List Mk) (v : Value) (h2 : AH) : Ending→World→Prop :=
 fun e w'=>∃ ρ' v',e = .returned v' ∧ ρ.le ρ' ∧ VR ρ' v v' ∧ Sim G P w0 ρ' D h2 w'
def Leads (G : Code→Prop) (P : Program) (w0 : World) (ρ : Ren) (D : List Mk) (w : World) (fn : Fn) (cap args : Array Value) (v : Value) (h2 : AH) : Prop :=
 ∃ nx,(invoke (.fn fn cap) args).run P w = .ok nx w ∧
  ((∃ f as,nx = .enter f as ∧ CallsIn Fence.wide 0 P f as w (CallPost G P w0 ρ D v h2)) ∨
   (∃ l f ts as bd,fn = .yield l ∧ nx = .round l f ts as bd ∧ RoundIn Fence.wide 0 P l f ts as bd w (CallPost G P w0 ρ D v h2)) ∨
   (∃ v',nx = .value v' ∧ VR ρ v v' ∧ Sim G P w0 ρ D h2 w))
def InvOK (G : Code→Prop) (P : Program) (w0 : World) (inv : Inv) : Prop :=
 ∀ fn cap args h v h2,inv fn cap args h = some (v,h2)→∀ ρ D w fn' cap' args',Sim G P w0 ρ D h w→FnR ρ fn fn'→AsR ρ cap cap'→AsR ρ args args' →
  Leads G P w0 ρ D w fn' cap' args' v h2
/-- The fences in which code is walked: the wide one, and it in a round. -/
def FenceOK (F : Fence) : Prop:=∃ r,F = { Fence.wide with round:=r }
theorem FenceOK.wide : FenceOK Fence.wide:=⟨none,rfl⟩
theorem FenceOK.round (l : Nat) : FenceOK (Fence.wide.inRound l):=⟨some l,rfl⟩
theorem FenceOK.fn {F : Fence} (hF : FenceOK F) (f : FuncId) : F.fn f:=by obtain ⟨r,rfl⟩:=hF; trivial
theorem FenceOK.depth {F : Fence} (hF : FenceOK F) : F.depth.isSome = true→1 ≤ 0:=by obtain ⟨r,rfl⟩:=hF; intro h; cases h
theorem AsR.append {a a' b b' : Array Value} (h1 : AsR ρ a a') (h2 : AsR ρ b b') : AsR ρ (a ++ b) (a' ++ b'):=by
 have:=(AsR.list.1 h1).append (AsR.list.1 h2)
 exact AsR.list.2 (by simpa using this)
theorem op_sim {inv : Inv} (hI : InvOK G P w0 inv) {F : Fence} (hF : FenceOK F) (S : Sim G P w0 ρ D h w) {o : Oper} {ev : Operand→Value} {a' : Act} (hE : ∀ x ∈ o.op.operands,VR ρ (ev x) (a'.eval x)) {v : Value} {h2 : AH}
  (hv : eOp P inv o ev h = some (v,h2)) {next : Act→World→Prop} {Q : Exit→Act→World→Prop}
  (hnext : ∀ ρ' v' w',ρ.le ρ'→VR ρ' v v'→Sim G P w0 ρ' D h2 w'→next (a'.put o.dst v') w') : o.wpIn F 0 P a' w next Q:=by
 have nodefer : ∀ c,o.op ≠ .defer c:=by
  intro c hc
  unfold eOp at hv
  split at hv
  ·unfold eLight at hv; rw [hc] at hv; cases hv
  ·unfold eHeavy at hv; rw [hc] at hv; cases hv
 refine ⟨fun f _=>hF.fn f,?_⟩
 have hsem : Oper.semAt F.round a'.eval o = execOp a'.eval o:=by
  cases F.round with
  | none=>rfl
  | some l=>exact Oper.semAt_some l _ o nodefer
 rw [hsem]
 -- an operation that makes a value
 have does : ∀ s : Sem Value,execOp a'.eval o = (do pure (.value (← s)))→Does G P w0 ρ D w s v h2→o.uponIn F 0 P a' next Q ((execOp a'.eval o).run P w):=by
  rintro s hs ⟨ρ',v',w',k1,k2,k3,k4⟩
  rw [hs]
  simp only [Sem.run_bind,k1,Result.andThen_ok,Sem.run_pure,Oper.uponIn_value]
  exact hnext _ _ _ k2 k3 k4
 have doesU : ∀ s : Sem Unit,execOp a'.eval o = (do s; pure .skip)→v = unk→(∃ w',s.run P w = .ok () w' ∧ Sim G P w0 ρ D h2 w')→o.uponIn F 0 P a' next Q ((execOp a'.eval o).run P w):=by
  rintro s hs rfl ⟨w',k1,k4⟩
  rw [hs]
  simp only [Sem.run_bind,k1,Result.andThen_ok,Sem.run_pure,Oper.uponIn_skip]
  exact hnext _ _ _ (Ren.le_refl _) (.unk _) k4
 unfold eOp at hv
 split at hv
 ·cases hl : eLight P o ev h with
  | none=>rw [hl] at hv; cases hv
  | some x =>
   rw [hl] at hv
   cases hv
   obtain ⟨v',k1,k2⟩:=light_sim S hE hl
   rw [k1,Oper.uponIn_value]
   exact hnext _ _ _ (Ren.le_refl _) k2 S
 ·rename_i hnl
  obtain ⟨dst,op,type,pos,after,guard⟩:=o
  cases op <;> simp only [eHeavy] at hv <;> (try (cases hv; done))
  case alloc t=>exact does _ rfl (alloc_sim S hv)
  case box t x=>exact does _ rfl (box_sim S (hE x (by simp [Op.operands])) hv)
  case buildSlice t n parts =>
   have he : execOp a'.eval ⟨dst,.buildSlice t n parts,type,pos,after,guard⟩ = (do pure (.value (← Instr.buildSlice t n (parts.map fun p=>(p.1,a'.eval p.2))))) :=
    congrArg (fun ps=>(do pure (Next.value (← Instr.buildSlice t n ps)) : Sem Next)) (Array.map_congr_left fun ⟨i,x⟩ _=>rfl)
   refine does _ he ?_
   refine buildSlice_sim S ?_ hv
   have:=map_PsR (ρ:=ρ) (ev:=ev) (ev':=a'.eval) (xs:=parts.toList) fun x hx=>hE x (by simpa [Op.operands] using hx)
   simpa using this
  case store t a x =>
   cases hp : pStore P t (ev a) (ev x) h with
   | none=>rw [hp] at hv; cases hv
   | some h3 =>
    rw [hp] at hv
    cases hv
    exact doesU _ rfl rfl (store_sim S (hE a (by simp [Op.operands])) (hE x (by simp [Op.operands])) hp)
  case convert s d x=>exact does _ rfl (bytes_sim S (hE x (by simp [Op.operands])) hv)
  case makeMap t r=>exact does _ rfl (makeMap_sim S (map_OR fun y hy=>hE y (by cases hy; simp [Op.operands])) hv)
  case makeSlice t l c=>exact does _ rfl (makeSlice_sim S (hE l (by simp [Op.operands])) (hE c (by simp [Op.operands])) hv)
  case mapUpdate t m k x =>
   cases hp : pUpdate P t (ev m) (ev k) (ev x) h with
   | none=>rw [hp] at hv; cases hv
   | some h3 =>
    rw [hp] at hv
    cases hv
    exact doesU _ rfl rfl (update_sim S (hE m (by simp [Op.operands])) (hE k (by simp [Op.operands])) (hE x (by simp [Op.operands])) hp)
  case insert t m k x =>
   cases hp : pUpdate P t (ev m) (ev k) (ev x) h with
   | none=>rw [hp] at hv; cases hv
   | some h3 =>
    rw [hp] at hv
    cases hv
    exact doesU _ rfl rfl (update_sim S (hE m (by simp [Op.operands])) (hE k (by simp [Op.operands])) (hE x (by simp [Op.operands])) hp)
  case range t x=>exact does _ rfl (range_sim S (hE x (by simp [Op.operands])) hv)
  case next x b=>exact does _ rfl (next_sim S (hE x (by simp [Op.operands])) hv)
  case entry x=>exact does _ rfl (entry_sim S (hE x (by simp [Op.operands])) hv)
  case call c =>
   obtain ⟨callee,args,argTypes⟩:=c
   have leads : ∀ fn cap as,(execOp a'.eval ⟨dst,.call ⟨callee,args,argTypes⟩,type,pos,after,guard⟩).run P w = (invoke (.fn fn cap) as).run P w→Leads G P w0 ρ D w fn cap as v h2 →
     Oper.uponIn F 0 P ⟨dst,.call ⟨callee,args,argTypes⟩,type,pos,after,guard⟩ a' next Q ((execOp a'.eval ⟨dst,.call ⟨callee,args,argTypes⟩,type,pos,after,guard⟩).run P w):=by
    rintro fn cap as he ⟨nx,k1,k2⟩
    rw [he,k1]
    rcases k2 with ⟨f,as',rfl,k2⟩ | ⟨l,f,ts,as',bd,_,rfl,k2⟩ | ⟨v',rfl,k2,k3⟩
    ·rw [Oper.uponIn_enter]
     refine ⟨hF.depth,?_⟩
     obtain ⟨r,rfl⟩:=hF
     have k3 : CallsIn { Fence.wide with round:=r } 0 P f as' w (CallPost G P w0 ρ D v h2):=k2
     exact ⟨trivial,fun cs hr=>by
      obtain ⟨e,w',fr,q1,q2⟩:=k3.2 cs hr
      obtain ⟨ρ',v',rfl,z1,z2,z3⟩:=q1
      exact ⟨.returned v',w',fr,hnext _ _ _ z1 z2 z3,q2⟩⟩
    ·rw [Oper.uponIn_round]
     refine ⟨hF.depth,?_⟩
     obtain ⟨r,rfl⟩:=hF
     have k3 : RoundIn { Fence.wide with round:=r } 0 P l f ts as' bd w (CallPost G P w0 ρ D v h2):=k2
     exact k3.mono fun e w' hq=>by
      obtain ⟨ρ',v',rfl,z1,z2,z3⟩:=hq
      exact hnext _ _ _ z1 z2 z3
    ·rw [Oper.uponIn_value]
     exact hnext _ _ _ (Ren.le_refl _) k2 k3
   have hargs : AsR ρ (args.map ev) (args.map a'.eval):=map_AsR fun x hx=>hE x (by simp [Op.operands,Call.operands,hx])
   cases callee with
   | value f =>
    simp only at hv
    have hf:=hE f (by simp [Op.operands,Call.operands])
    split at hv
    ·rename_i fn first captured hef
     rw [hef] at hf
     generalize hef' : a'.eval f = vf at hf
     cases hf with
     | func _ fn' _ _ first' captured' q1 q2 q3 q4 q5 =>
      refine leads fn' captured' (first' ++ args.map a'.eval) ?_ (hI _ _ _ _ _ _ hv ρ D w _ _ _ S q1 ⟨q4,q5⟩ (AsR.append ⟨q2,q3⟩ hargs))
      simp [execOp,resolve,hef',Deferred.ofValue]
    ·cases hv
   | invoke r name =>
    simp only at hv
    have hr:=hE r (by simp [Op.operands,Call.operands])
    refine leads (.method name) #[] (#[a'.eval r] ++ args.map a'.eval) ?_ (hI _ _ _ _ _ _ hv ρ D w _ _ _ S (.method name) ⟨rfl,fun i v v' h1=>by simp at h1⟩ (AsR.append (AsR.list.2 (.cons hr .nil)) hargs))
    simp [execOp,resolve]
   | builtin b =>
    have two : ∀ x y,args.toList = [x,y]→args = #[x,y]:=fun x y hl=>Array.toList_inj.1 (by simpa using hl)
    cases b <;> simp only at hv <;> (try (cases hv; done))
    case append =>
     split at hv
     ·rename_i s x hl
      obtain rfl:=two _ _ hl
      refine does (Builtin.append_ argTypes type #[a'.eval s,a'.eval x]) ?_ (append_sim S (hE s (by simp [Op.operands,Call.operands])) (hE x (by simp [Op.operands,Call.operands])) hv)
      simp [execOp,resolve,invoke,builtin]
     ·cases hv
    case copy =>
     split at hv
     ·rename_i s x hl
      obtain rfl:=two _ _ hl
      refine does (Builtin.copy_ argTypes type #[a'.eval s,a'.eval x]) ?_ (copy_sim S (hE s (by simp [Op.operands,Call.operands])) (hE x (by simp [Op.operands,Call.operands])) hv)
      simp [execOp,resolve,invoke,builtin]
     ·cases hv
    case clear =>
     split at hv
     ·rename_i x hl
      have : args = #[x]:=Array.toList_inj.1 (by simpa using hl)
      subst this
      cases hp : pClear P argTypes (ev x) h with
      | none=>rw [hp] at hv; cases hv
      | some h3 =>
       rw [hp] at hv
       cases hv
       obtain ⟨w',k1,k2⟩:=clear_sim (t:=type) S (hE x (by simp [Op.operands,Call.operands])) hp
       refine does (Builtin.clear_ argTypes type #[a'.eval x]) (by simp [execOp,resolve,invoke,builtin]) ⟨ρ,_,w',k1,Ren.le_refl _,.unk _,k2⟩
     ·cases hv
/-- A new row that the evaluator has had for long. -/
theorem op_settle {inv : Inv} {F : Fence} (hF : FenceOK F) {hp : AH} {D2 : List Mk} (S : Sim G P w0 ρ D hp w) {o : Oper} {ev : Operand→Value} {a' : Act} (hE : ∀ x ∈ o.op.operands,VR ρ (ev x) (a'.eval x)) {v : Value} {h2 : AH}
  (hfr : freshOp o = true) (hv : eOp P inv o ev h = some (v,h2)) {ob : AO} (hob : h2 = h.alloc ob) (hb : Mk.late h.n ob ∈ D)
  (hD : ∀ x ∈ D2,x ∈ D) (hD' : ∀ x ∈ D,x ∈ D2 ∨ ∃ o',x = Mk.late h.n o') (hnd : (D2.map Mk.key).Nodup) (hl : ¬ Late D2 h.n) {next : Act→World→Prop} {Q : Exit→Act→World→Prop}
  (hnext : ∀ ρ' v' w',ρ.le ρ'→VR ρ' v v'→Sim G P w0 ρ' D2 hp w'→next (a'.put o.dst v') w') : o.wpIn F 0 P a' w next Q:=by
 have nodefer : ∀ c,o.op ≠ .defer c:=by
  intro c hc
  unfold freshOp at hfr
  rw [hc] at hfr
  cases hfr
 refine ⟨fun f _=>hF.fn f,?_⟩
 have hsem : Oper.semAt F.round a'.eval o = execOp a'.eval o:=by
  cases F.round with
  | none=>rfl
  | some l=>exact Oper.semAt_some l _ o nodefer
 rw [hsem]
 have does : ∀ s : Sem Value,execOp a'.eval o = (do pure (.value (← s)))→Fresh P ρ w h s v h2→o.uponIn F 0 P a' next Q ((execOp a'.eval o).run P w):=by
  intro s hs hf
  obtain ⟨ρ',v',w',k1,k2,k3,k4⟩:=hf.settle S hob hb hD hD' hnd hl
  rw [hs]
  simp only [Sem.run_bind,k1,Result.andThen_ok,Sem.run_pure,Oper.uponIn_value]
  exact hnext _ _ _ k2 k3 k4
 unfold eOp at hv
 obtain ⟨dst,op,type,pos,after,guard⟩:=o
 cases op <;> (try (cases hfr; done))
 case alloc t=>exact does _ rfl (alloc_fresh hv)
 case box t x=>exact does _ rfl (box_fresh (hE x (by simp [Op.operands])) hv)
 case buildSlice t n parts =>
  have he : execOp a'.eval ⟨dst,.buildSlice t n parts,type,pos,after,guard⟩ = (do pure (.value (← Instr.buildSlice t n (parts.map fun p=>(p.1,a'.eval p.2))))) :=
   congrArg (fun ps=>(do pure (Next.value (← Instr.buildSlice t n ps)) : Sem Next)) (Array.map_congr_left fun ⟨i,x⟩ _=>rfl)
  refine does _ he ?_
  refine buildSlice_fresh ?_ hv
  have:=map_PsR (ρ:=ρ) (ev:=ev) (ev':=a'.eval) (xs:=parts.toList) fun x hx=>hE x (by simpa [Op.operands] using hx)
  simpa using this
 case makeSlice t l c=>exact does _ rfl (makeSlice_fresh (hE l (by simp [Op.operands])) (hE c (by simp [Op.operands])) hv)
/-- What such an operation adds. -/
theorem fresh_form {inv : Inv} {o : Oper} {ev : Operand→Value} {v : Value} {h2 : AH} (hfr : freshOp o = true) (hv : eOp P inv o ev h = some (v,h2)) : ∃ ob,h2 = h.alloc ob:=by
 unfold eOp at hv
 obtain ⟨dst,op,type,pos,after,guard⟩:=o
 cases op <;> (try (cases hfr; done))
 case alloc t=>obtain ⟨cs,e,_,_,_,_,h1,_⟩:=alloc_fresh (ρ:=fun _=>none) (w:=default) hv; exact ⟨_,h1⟩
 case box t x =>
  simp only [isLight,Bool.false_eq_true,if_false,eHeavy] at hv
  unfold pBox newCells at hv
  split at hv
  ·cases hv; exact ⟨_,rfl⟩
  ·cases hv
 case buildSlice t n parts =>
  simp only [isLight,Bool.false_eq_true,if_false,eHeavy] at hv
  unfold pBuildSlice at hv
  split at hv
  ·cases hv
  ·split at hv
   ·split at hv
    ·cases hv
    ·split at hv
     ·cases hv; exact ⟨_,rfl⟩
     ·cases hv
   ·cases hv
 case makeSlice t l c =>
  simp only [isLight,Bool.false_eq_true,if_false,eHeavy] at hv
  unfold pMakeSlice at hv
  split at hv
  ·split at hv
   ·split at hv
    ·cases hv; exact ⟨_,rfl⟩
    ·cases hv
   ·cases hv
  ·cases hv
/-! ### A region in the text's order -/
def okOperand : Operand→Bool
 | .tmp _ | .func _=>true
 | .const v=>plain v
 | .global _=>false
def okOper (o : Oper) : Bool:=o.op.operands.toList.all okOperand
theorem eval_sim {a a' : Act} (ha : AsR ρ a.tmps a'.tmps) {x : Operand} (hx : okOperand x = true) : VR ρ (a.eval x) (a'.eval x):=by
 cases x with
 | tmp t=>exact ha.getD t
 | const v=>exact VR.reflP ρ hx
 | global g=>cases hx
 | func f=>exact .func _ _ _ _ _ _ (.func f) rfl (fun i v v' h1=>by simp at h1) rfl (fun i v v' h1=>by simp at h1)
theorem wanted_slot {ops : Array Oper} {o : Oper} {t t' : Array Value} {b : Bool} (hw : wantedE ops o t = some b)
  (ha : ∀ (j : Nat) (want : Bool) (d : Tmp) (v : Value),o.guard = some (j,want)→(ops[j]?).bind (·.dst) = some d→t[d]? = some v→∃ v',t'[d]? = some v' ∧ VR ρ v v') : Region.wanted o (yielded ops t') = b:=by
 unfold wantedE at hw
 simp only [Array.getElem?_toList] at hw
 unfold Region.wanted
 cases hg : o.guard with
 | none=>rw [hg] at hw; cases hw; rfl
 | some jw =>
  obtain ⟨j,want⟩:=jw
  rw [hg] at hw
  simp only at hw ⊢
  unfold yielded
  cases hd : (ops[j]?).bind (·.dst) with
  | none=>rw [hd] at hw; cases hw
  | some d =>
   rw [hd] at hw
   simp only [Option.bind_some] at hw ⊢
   cases hv : (t[d]? : Option Value) with
   | none=>rw [hv] at hw; cases hw
   | some v =>
    rw [hv] at hw
    obtain ⟨v',h1,h2⟩:=ha j want d v hg hd hv
    rw [h1]
    cases h2 <;> (try simp only at hw) <;> first
     | (cases hw; done)
     | (cases hw; simp only [beq_iff_eq]; rename_i b0; cases b0 <;> cases want <;> rfl)
     | skip
    case skipped =>
     cases hw
     rfl
    case tuple a a' hs hp =>
     split at hw
     ·rename_i us hl
      split at hw
      ·cases hw
       have ha2 : a = #[.tuple us]:=Array.toList_inj.1 (by simpa using hl)
       subst ha2
       simp only [beq_eq_false_iff_ne]
       cases want <;> simp
      ·cases hw
     ·cases hw
theorem wanted_sim {ops : Array Oper} {o : Oper} {t t' : Array Value} (ha : AsR ρ t t') {b : Bool} (hw : wantedE ops o t = some b) : Region.wanted o (yielded ops t') = b :=
 wanted_slot hw fun _ _ _ _ _ _ hv=>ha.get hv
theorem put_AsR {a a' : Act} (ha : AsR ρ a.tmps a'.tmps) (d : Option Tmp) {v v' : Value} (hv : VR ρ v v') : AsR ρ (a.put d v).tmps (a'.put d v').tmps:=by
 cases d with
 | none=>exact ha
 | some t=>exact ha.set t hv
theorem put_defers (a : Act) (d : Option Tmp) (v : Value) : (a.put d v).defers = a.defers:=by cases d <;> rfl
theorem ops_sim {inv : Inv} (hI : InvOK G P w0 inv) {F : Fence} (hF : FenceOK F) {ops : Array Oper} (hops : ∀ (i : Nat) (o : Oper),ops[i]? = some o→okOper o = true) {Q : Exit→Act→World→Prop} :
  ∀ (is : List Nat) {ρ : Ren} {h : AH} {w : World} {a a' a2 : Act} {h2 : AH},Sim G P w0 ρ D h w→AsR ρ a.tmps a'.tmps→eOps P inv ops is a h = some (a2,h2) →
   (∀ ρ' a2' w',ρ.le ρ'→AsR ρ' a2.tmps a2'.tmps→a2'.defers = a'.defers→Sim G P w0 ρ' D h2 w'→Q .normal a2' w')→wpOpsIn F 0 P ops Q is a' w:=by
 intro is
 induction is with
 | nil =>
  intro ρ h w a a' a2 h2 S ha he hQ
  simp only [eOps,Option.some.injEq,Prod.mk.injEq] at he
  obtain ⟨rfl,rfl⟩:=he
  exact hQ ρ a' w (Ren.le_refl _) ha rfl S
 | cons i is ih =>
  intro ρ h w a a' a2 h2 S ha he hQ
  unfold eOps at he
  cases hst : eStep P inv ops i a h with
  | none=>rw [hst] at he; cases he
  | some t =>
   rw [hst] at he
   simp only [putF_eq] at he
   unfold eStep at hst
   rw [Array.getElem?_toList] at hst
   cases ho : ops[i]? with
   | none=>rw [ho] at hst; cases hst
   | some o =>
    rw [ho] at hst
    simp only at hst
    have hok:=List.all_eq_true.1 (hops i o ho)
    have hE : ∀ x ∈ o.op.operands,VR ρ (a.eval x) (a'.eval x):=fun x hx=>eval_sim ha (hok x (by simpa using hx))
    simp only [wpOpsIn,ho]
    cases hw : wantedE ops o a.tmps with
    | none=>rw [hw] at hst; cases hst
    | some b =>
     rw [hw] at hst
     have hww:=wanted_sim ha hw
     cases b with
     | false =>
      simp only [Option.some.injEq] at hst
      subst hst
      rw [hww]
      simp only [Bool.false_eq_true,if_false]
      refine ⟨fun f _=>hF.fn f,ih S (put_AsR ha _ .skipped) he fun ρ' a2' w' q1 q2 q3 q4=>hQ ρ' a2' w' q1 q2 (by rw [q3,put_defers]) q4⟩
     | true =>
      simp only at hst
      rw [hww]
      simp only [if_true]
      rw [evL_eq] at hst
      cases hop : eOp P inv o a.eval h with
      | none=>rw [hop] at hst; cases hst
      | some vh =>
       obtain ⟨v,h3⟩:=vh
       rw [hop] at hst
       simp only [fcV_eq,fcH_eq,Option.some.injEq] at hst
       subst hst
       refine op_sim hI hF S hE hop fun ρ' v' w' q1 q2 q3=>?_
       exact ih q3 (put_AsR (ha.mono q1) _ q2) he fun ρ2 a2' w2 z1 z2 z3 z4=>hQ ρ2 a2' w2 (Ren.le_trans q1 z1) z2 (by rw [z3,put_defers]) z4
end Go.Proofs.Ev
set_option linter.unusedVariables false
set_option linter.unusedSimpArgs false
namespace Go.Proofs.Ev
open Go Go.RowKit
variable {G : Code→Prop} {P : Program} {w0 : World} {ρ : Ren} {D : List Mk} {h : AH} {w : World}
theorem same0_eq {x y : Value} (hs : same0 x y = true) : x = y:=by
 unfold same0 at hs
 split at hs <;> first
  | rfl
  | (cases hs; done)
  | (simp only [Bool.and_eq_true,beq_iff_eq] at hs; simp_all; done)
  | (rw [ba_eq hs])
theorem sameList_eq : ∀ {xs ys : List Value},sameList xs ys = true→xs = ys:=by
 intro xs
 induction xs with
 | nil=>intro ys hs; cases ys with | nil=>rfl | cons=>simp [sameList] at hs
 | cons x xs ih =>
  intro ys hs
  cases ys with
  | nil=>simp [sameList] at hs
  | cons y ys =>
   simp only [sameList,Bool.and_eq_true] at hs
   rw [same0_eq hs.1,ih hs.2]
theorem sameV_eq {x y : Value} (hs : sameV x y = true) : x = y:=by
 unfold sameV at hs
 split at hs
 ·exact congrArg _ (Array.toList_inj.1 (sameList_eq hs))
 ·simp only [Bool.and_eq_true,beq_iff_eq] at hs
  rw [hs.1,same0_eq hs.2]
 ·simp only [Bool.and_eq_true] at hs
  exact congrArg _ (Array.toList_inj.1 (sameList_eq hs.2))
 ·simp only [Bool.and_eq_true,beq_iff_eq] at hs
  rw [hs.1.1,Array.toList_inj.1 (sameList_eq hs.1.2),Array.toList_inj.1 (sameList_eq hs.2)]
 ·exact same0_eq hs
theorem sameO_eq {x : Option Value} {y : Value} (hs : sameO x y = true) : x = some y:=by
 cases x with
 | none=>simp [sameO] at hs
 | some v=>rw [sameV_eq hs]
/-! ### What stands ahead of what -/
def looks (ops : Array Oper) (o : Oper) : List Tmp :=
 (o.op.operands.toList.filterMap fun | .tmp t=>some t | _=>none) ++
 (match o.guard with
  | some (j,_)=>((ops[j]?).bind (·.dst)).toList
  | none=>[]) ++ o.dst.toList
def okDraw (P : Program) (ops : Array Oper) : Bool :=
 (List.range ops.size).all fun i=>match ops[i]? with
  | none=>true
  | some oi=>(oi.after.toList.all fun e=>!Region.binds .any e || decide (e.on < i)) &&
   (List.range ops.size).all fun j=>match ops[j]? with
    | none=>true
    | some oj=>i == j || ((isLight P oi || isLight P oj || ordered (masks ops) i j || looseAt P ops (masks ops) (min i j)) &&
      (match oi.dst with
       | some d=>!(looks ops oj).contains d || ordered (masks ops) i j
       | none=>true))
theorem maskOf_bit {acc : Array Nat} {o : Oper} {i : Nat} (hb : (maskOf acc o).testBit i = true) :
  ∃ e ∈ o.after.toList,Region.binds .any e = true ∧ (e.on = i ∨ (acc.getD e.on 0).testBit i = true):=by
 have : ∀ (l : List Edge) (s : Nat),(l.foldl (fun s e=>if Region.binds .any e then s ||| 2 ^ e.on ||| acc.getD e.on 0 else s) s).testBit i = true →
   s.testBit i = true ∨ ∃ e ∈ l,Region.binds .any e = true ∧ (e.on = i ∨ (acc.getD e.on 0).testBit i = true):=by
  intro l
  induction l with
  | nil=>intro s hs; exact .inl hs
  | cons e l ih =>
   intro s hs
   rcases ih _ hs with h1 | ⟨e',h1,h2⟩
   ·by_cases hbd : Region.binds .any e = true
    ·dsimp only at h1
     rw [if_pos hbd] at h1
     simp only [Nat.testBit_or,Bool.or_eq_true,Nat.testBit_two_pow,decide_eq_true_eq] at h1
     rcases h1 with (h1 | h1) | h1
     ·exact .inl h1
     ·exact .inr ⟨e,by simp,hbd,.inl h1⟩
     ·exact .inr ⟨e,by simp,hbd,.inr h1⟩
    ·dsimp only at h1
     rw [if_neg hbd] at h1
     exact .inl h1
   ·exact .inr ⟨e',by simp [h1],h2⟩
 rcases this o.after.toList 0 hb with h1 | h1
 ·simp at h1
 ·exact h1
theorem masks_go : ∀ (l : List Oper) (acc : Array Nat),
  (∀ x,x < acc.size→(l.foldl (fun acc o=>acc.push (maskOf acc o)) acc).getD x 0 = acc.getD x 0) ∧
  (∀ (j : Nat) (o : Oper),l[j]? = some o→∃ acc' : Array Nat,(l.foldl (fun acc o=>acc.push (maskOf acc o)) acc).getD (acc.size + j) 0 = maskOf acc' o ∧
   ∀ x,x < acc.size + j→acc'.getD x 0 = (l.foldl (fun acc o=>acc.push (maskOf acc o)) acc).getD x 0):=by
 intro l
 induction l with
 | nil=>intro acc; exact ⟨fun _ _=>rfl,fun j o hj=>by simp at hj⟩
 | cons o l ih =>
  intro acc
  obtain ⟨h1,h2⟩:=ih (acc.push (maskOf acc o))
  have hold : ∀ x,x < acc.size→(acc.push (maskOf acc o)).getD x 0 = acc.getD x 0:=by
   intro x hx
   simp only [Array.getD_eq_getD_getElem?]
   rw [Array.getElem?_push,if_neg (by omega)]
  refine ⟨fun x hx=>?_,fun j o' hj=>?_⟩
  ·simp only [List.foldl_cons]
   rw [h1 x (by simp; omega),hold x hx]
  ·simp only [List.foldl_cons]
   cases j with
   | zero =>
    simp at hj
    subst hj
    refine ⟨acc,?_,fun x hx=>?_⟩
    ·rw [h1 _ (by simp)]
     simp
    ·rw [h1 x (by simp; omega),hold x (by omega)]
   | succ j =>
    obtain ⟨acc',k1,k2⟩:=h2 j o' (by simpa using hj)
    have e : (acc.push (maskOf acc o)).size + j = acc.size + (j + 1):=by simp; omega
    rw [e] at k1 k2
    exact ⟨acc',k1,k2⟩
theorem masks_bit {ops : Array Oper} {i j : Nat} {o : Oper} (ho : ops[j]? = some o) (hlt : ∀ e ∈ o.after.toList,Region.binds .any e = true→e.on < j) (hb : ((masks ops).getD j 0).testBit i = true) :
  ∃ e ∈ o.after.toList,Region.binds .any e = true ∧ (e.on = i ∨ ((masks ops).getD e.on 0).testBit i = true):=by
 obtain ⟨_,h2⟩:=masks_go ops.toList #[]
 obtain ⟨acc',k1,k2⟩:=h2 j o (by simpa using ho)
 simp only [List.size_toArray,List.length_nil,Nat.zero_add] at k1 k2
 unfold masks at hb ⊢
 rw [k1] at hb
 obtain ⟨e,e1,e2,e3⟩:=maskOf_bit hb
 refine ⟨e,e1,e2,?_⟩
 rcases e3 with e3 | e3
 ·exact .inl e3
 ·right; rw [← k2 _ (hlt e e1 e2)]; exact e3
theorem okDraw_edge {ops : Array Oper} (hd : okDraw P ops = true) {i : Nat} {o : Oper} (ho : ops[i]? = some o) : ∀ e ∈ o.after.toList,Region.binds .any e = true→e.on < i:=by
 intro e he hb
 have hi : i < ops.size:=(Array.getElem?_eq_some_iff.1 ho).1
 have:=List.all_eq_true.1 hd i (List.mem_range.2 hi)
 rw [ho] at this
 simp only [Bool.and_eq_true] at this
 have:=List.all_eq_true.1 this.1 e he
 simpa [hb] using this
theorem okDraw_pair {ops : Array Oper} (hd : okDraw P ops = true) {i j : Nat} {oi oj : Oper} (hi : ops[i]? = some oi) (hj : ops[j]? = some oj) (hne : i ≠ j) :
  (isLight P oi = false→isLight P oj = false→ordered (masks ops) i j = true ∨ looseAt P ops (masks ops) (min i j) = true) ∧ (∀ d,oi.dst = some d→d ∈ looks ops oj→ordered (masks ops) i j = true):=by
 have hi' : i < ops.size:=(Array.getElem?_eq_some_iff.1 hi).1
 have hj' : j < ops.size:=(Array.getElem?_eq_some_iff.1 hj).1
 have:=List.all_eq_true.1 hd i (List.mem_range.2 hi')
 rw [hi] at this
 simp only [Bool.and_eq_true] at this
 have:=List.all_eq_true.1 this.2 j (List.mem_range.2 hj')
 rw [hj] at this
 simp only [Bool.or_eq_true,beq_iff_eq,hne,false_or,Bool.and_eq_true] at this
 refine ⟨fun h1 h2=>by simpa [h1,h2,Nat.min_comm] using this.1,fun d h1 h2=>?_⟩
 have:=this.2
 rw [h1] at this
 simpa [h2] using this
/-- Listed from the front on: whatever stands ahead of a listed one is listed. -/
def Closed (ops : Array Oper) (L : Nat→Prop) : Prop:=∀ (j : Nat) (o : Oper),ops[j]? = some o→L j→∀ e ∈ o.after.toList,Region.binds .any e = true→L e.on
theorem closed_bit {ops : Array Oper} (hd : okDraw P ops = true) {L : Nat→Prop} (hL : Closed ops L) : ∀ (j : Nat) (o : Oper),ops[j]? = some o→(∀ e ∈ o.after.toList,Region.binds .any e = true→L e.on) →
  ∀ i,((masks ops).getD j 0).testBit i = true→L i:=by
 intro j
 induction j using Nat.strongRecOn with
 | _ j ih =>
  intro o ho hp i hb
  obtain ⟨e,e1,e2,e3⟩:=masks_bit ho (okDraw_edge hd ho) hb
  have hlt:=okDraw_edge hd ho e e1 e2
  have hLe:=hp e e1 e2
  rcases e3 with rfl | e3
  ·exact hLe
  ·have hs : e.on < ops.size:=by
    have:=(Array.getElem?_eq_some_iff.1 ho).1
    omega
   exact ih e.on hlt ops[e.on] (by simp [hs]) (fun e' q1 q2=>hL e.on _ (by simp [hs]) hLe e' q1 q2) i e3
theorem mask_lt {ops : Array Oper} (hd : okDraw P ops = true) {i j : Nat} {o : Oper} (ho : ops[j]? = some o) (hb : ((masks ops).getD j 0).testBit i = true) : i < j:=by
 have : ∀ (j : Nat) (o : Oper),ops[j]? = some o→((masks ops).getD j 0).testBit i = true→i < j:=by
  intro j
  induction j using Nat.strongRecOn with
  | _ j ih =>
   intro o ho hb
   obtain ⟨e,e1,e2,e3⟩:=masks_bit ho (okDraw_edge hd ho) hb
   have hlt:=okDraw_edge hd ho e e1 e2
   rcases e3 with rfl | e3
   ·exact hlt
   ·have hs : e.on < ops.size:=by
     have:=(Array.getElem?_eq_some_iff.1 ho).1
     omega
    have:=ih e.on hlt ops[e.on] (by simp [hs]) e3
    omega
 exact this j o ho hb
/-- Of two that are ordered, one not listed yet and ready, the other is listed just if it stands ahead in the text. -/
theorem ordered_listed {ops : Array Oper} (hd : okDraw P ops = true) {L : Nat→Prop} (hL : Closed ops L) {i j : Nat} {oi oj : Oper} (hi : ops[i]? = some oi) (hj : ops[j]? = some oj) (hne : i ≠ j)
  (hni : ¬ L i) (hp : ∀ e ∈ oi.after.toList,Region.binds .any e = true→L e.on) (ho : ordered (masks ops) i j = true ∨ ordered (masks ops) j i = true) : L j ↔ j < i:=by
 have hb : ((masks ops).getD i 0).testBit j = true ∨ ((masks ops).getD j 0).testBit i = true:=by
  unfold ordered at ho
  simp only [Bool.or_eq_true,beq_iff_eq,hne,Ne.symm hne,false_or] at ho
  rcases ho with (h1 | h1) | (h1 | h1)
  ·exact .inl h1
  ·exact .inr h1
  ·exact .inr h1
  ·exact .inl h1
 constructor
 ·intro hLj
  rcases hb with h1 | h1
  ·exact mask_lt hd hi h1
  ·exact absurd (closed_bit hd hL j oj hj (fun e q1 q2=>hL j oj hj hLj e q1 q2) i h1) hni
 ·intro hlt
  rcases hb with h1 | h1
  ·exact closed_bit hd hL i oi hi hp j h1
  ·have:=mask_lt hd hj h1; omega
/-! ### The text's run, step by step -/
structure Tr (P : Program) (inv : Inv) (ops : Array Oper) (n : Nat) (a : Act) (h : AH) (a2 : Act) (h2 : AH) (ts : List TR) where
 A : Nat→Act
 H : Nat→AH
 T : Nat→TR
 A0 : A 0 = a
 H0 : H 0 = h
 An : A n = a2
 Hn : H n = h2
 step : ∀ k,k < n→eStep P inv ops k (A k) (H k) = some (T k) ∧ A (k + 1) = (A k).put (T k).o.dst (T k).v ∧ H (k + 1) = (T k).h2
 mem : ∀ k,k < n→ts[k]? = some (T k)
theorem trace_tr {inv : Inv} {ops : Array Oper} : ∀ (m s : Nat) (a : Act) (h : AH) (ts : List TR) (a2 : Act) (h2 : AH),eTrace P inv ops (List.range' s m) a h = some (ts,a2,h2) →
  ∃ (A : Nat→Act) (H : Nat→AH) (T : Nat→TR),A s = a ∧ H s = h ∧ A (s + m) = a2 ∧ H (s + m) = h2 ∧
   (∀ k,s ≤ k→k < s + m→eStep P inv ops k (A k) (H k) = some (T k) ∧ A (k + 1) = (A k).put (T k).o.dst (T k).v ∧ H (k + 1) = (T k).h2) ∧ (∀ k,s ≤ k→k < s + m→ts[k - s]? = some (T k)):=by
 intro m
 induction m with
 | zero =>
  intro s a h ts a2 h2 he
  simp only [List.range'_zero,eTrace,Option.some.injEq,Prod.mk.injEq] at he
  obtain ⟨rfl,rfl,rfl⟩:=he
  exact ⟨fun _=>a,fun _=>h,fun _=>⟨0,default,a,h,unk,h,false⟩,rfl,rfl,rfl,rfl,fun k h1 h2=>by omega,fun k h1 h2=>by omega⟩
 | succ m ih =>
  intro s a h ts a2 h2 he
  simp only [List.range'_succ,eTrace,putF_eq] at he
  cases hst : eStep P inv ops s a h with
  | none=>rw [hst] at he; cases he
  | some t =>
   rw [hst] at he
   simp only at he
   cases hr : eTrace P inv ops (List.range' (s + 1) m) (a.put t.o.dst t.v) t.h2 with
   | none=>rw [hr] at he; cases he
   | some x =>
    obtain ⟨ts',a3,h3⟩:=x
    rw [hr] at he
    simp only [Option.some.injEq,Prod.mk.injEq] at he
    obtain ⟨rfl,rfl,rfl⟩:=he
    obtain ⟨A,H,T,k1,k2,k3,k4,k5,k6⟩:=ih (s + 1) _ _ _ _ _ hr
    refine ⟨fun k=>if k = s then a else A k,fun k=>if k = s then h else H k,fun k=>if k = s then t else T k,by simp,by simp,?_,?_,fun k q1 q2=>?_,fun k q1 q2=>?_⟩
    ·dsimp only; rw [if_neg (by omega),show s + (m + 1) = s + 1 + m by omega]; exact k3
    ·dsimp only; rw [if_neg (by omega),show s + (m + 1) = s + 1 + m by omega]; exact k4
    ·by_cases hk : k = s
     ·subst hk
      dsimp only
      rw [if_pos rfl,if_pos rfl,if_pos rfl,if_neg (by omega),if_neg (by omega)]
      exact ⟨hst,k1,k2⟩
     ·dsimp only
      rw [if_neg hk,if_neg hk,if_neg hk,if_neg (by omega),if_neg (by omega)]
      exact k5 k (by omega) (by omega)
    ·by_cases hk : k = s
     ·subst hk; simp
     ·simp only [hk,if_false]
      rw [show k - s = (k - (s + 1)) + 1 by omega,List.getElem?_cons_succ]
      exact k6 k (by omega) (by omega)
theorem eTrace_tr {inv : Inv} {ops : Array Oper} {n : Nat} {a a2 : Act} {h h2 : AH} {ts : List TR} (he : eTrace P inv ops (List.range n) a h = some (ts,a2,h2)) : Nonempty (Tr P inv ops n a h a2 h2 ts):=by
 rw [List.range_eq_range'] at he
 obtain ⟨A,H,T,k1,k2,k3,k4,k5,k6⟩:=trace_tr n 0 a h ts a2 h2 he
 simp only [Nat.zero_add,Nat.sub_zero] at k3 k4 k5 k6
 exact ⟨⟨A,H,T,k1,k2,k3,k4,fun k hk=>k5 k (Nat.zero_le _) hk,fun k hk=>k6 k (Nat.zero_le _) hk⟩⟩
theorem eStep_spec {inv : Inv} {ops : Array Oper} {i : Nat} {a : Act} {h : AH} {t : TR} (hs : eStep P inv ops i a h = some t) :
  ∃ o,ops[i]? = some o ∧ t.i = i ∧ t.o = o ∧ t.a = a ∧ t.h = h ∧
   ((t.did = false ∧ wantedE ops o a.tmps = some false ∧ t.v = skipped ∧ t.h2 = h) ∨ (t.did = true ∧ wantedE ops o a.tmps = some true ∧ eOp P inv o a.eval h = some (t.v,t.h2))):=by
 unfold eStep at hs
 rw [Array.getElem?_toList] at hs
 cases ho : ops[i]? with
 | none=>rw [ho] at hs; cases hs
 | some o =>
  rw [ho] at hs
  simp only at hs
  cases hw : wantedE ops o a.tmps with
  | none=>rw [hw] at hs; cases hs
  | some b =>
   rw [hw] at hs
   cases b with
   | false=>simp only [Option.some.injEq] at hs; subst hs; exact ⟨o,rfl,rfl,rfl,rfl,rfl,.inl ⟨rfl,hw,rfl,rfl⟩⟩
   | true =>
    simp only [evL_eq] at hs
    cases hop : eOp P inv o a.eval h with
    | none=>rw [hop] at hs; cases hs
    | some x =>
     obtain ⟨v,h2⟩:=x
     rw [hop] at hs
     simp only [fcV_eq,fcH_eq,Option.some.injEq] at hs
     subst hs
     exact ⟨o,rfl,rfl,rfl,rfl,rfl,.inr ⟨rfl,hw,hop⟩⟩
theorem light_quiet {o : Oper} (hl : isLight P o = true) (hr : readsH o = false) (ev : Operand→Value) (h h' : AH) : eLight P o ev h = eLight P o ev h':=by
 obtain ⟨dst,op,type,pos,after,guard⟩:=o
 cases op <;> first
  | rfl
  | (simp [readsH] at hr; done)
theorem eOp_light {inv : Inv} {o : Oper} {ev : Operand→Value} {h h2 : AH} {v : Value} (hl : isLight P o = true) (he : eOp P inv o ev h = some (v,h2)) : eLight P o ev h = some v ∧ h2 = h:=by
 unfold eOp at he
 rw [if_pos hl] at he
 cases hx : eLight P o ev h with
 | none=>rw [hx] at he; cases he
 | some x=>rw [hx] at he; cases he; exact ⟨rfl,rfl⟩
/-! ### The simulation -/
section draw
variable {inv : Inv} {ops : Array Oper} {n : Nat} {a a2 : Act} {h2 : AH} {ts : List TR} (R : Tr P inv ops n a h a2 h2 ts)
/-- A did-heavy operation. -/
def Tr.dh (R : Tr P inv ops n a h a2 h2 ts) (k : Nat) : Prop:=k < n ∧ (R.T k).did = true ∧ isLight P (R.T k).o = false
theorem Tr.spec (R : Tr P inv ops n a h a2 h2 ts) {k : Nat} (hk : k < n) : ∃ o,ops[k]? = some o ∧ (R.T k).i = k ∧ (R.T k).o = o ∧ (R.T k).a = R.A k ∧ (R.T k).h = R.H k ∧
  (((R.T k).did = false ∧ wantedE ops o (R.A k).tmps = some false ∧ (R.T k).v = skipped ∧ (R.T k).h2 = R.H k) ∨
   ((R.T k).did = true ∧ wantedE ops o (R.A k).tmps = some true ∧ eOp P inv o (R.A k).eval (R.H k) = some ((R.T k).v,(R.T k).h2))):=eStep_spec (R.step k hk).1
/-- Between heavy ones memory stays. -/
theorem Tr.const (R : Tr P inv ops n a h a2 h2 ts) : ∀ (m p : Nat),p + m ≤ n→(∀ k,p ≤ k→k < p + m→¬ R.dh k)→R.H (p + m) = R.H p:=by
 intro m
 induction m with
 | zero=>intro p _ _; rfl
 | succ m ih =>
  intro p hle hno
  have hk : p + m < n:=by omega
  rw [← ih p (by omega) (fun k q1 q2=>hno k q1 (by omega))]
  have:=(R.step (p + m) hk).2.2
  rw [show p + (m + 1) = p + m + 1 by omega,this]
  obtain ⟨o,k1,k2,k3,k4,k5,k6⟩:=R.spec hk
  rcases k6 with ⟨_,_,_,k6⟩ | ⟨k7,_,k6⟩
  ·exact k6
  ·have hnd:=hno (p + m) (by omega) (by omega)
   have hl : isLight P o = true:=by
    cases hh : isLight P o with
    | true=>rfl
    | false=>exact absurd ⟨hk,k7,by rw [k3]; exact hh⟩ hnd
   exact (eOp_light hl k6).2
theorem Tr.const' (R : Tr P inv ops n a h a2 h2 ts) {p q : Nat} (hp : p ≤ n) (hq : q ≤ n) (hno : ∀ k,(p ≤ k ∧ k < q) ∨ (q ≤ k ∧ k < p)→¬ R.dh k) : R.H p = R.H q:=by
 rcases Nat.le_total p q with hle | hle
 ·have:=R.const (q - p) p (by omega) (fun k q1 q2=>hno k (.inl ⟨q1,by omega⟩))
  rw [show p + (q - p) = q by omega] at this
  exact this.symm
 ·have:=R.const (p - q) q (by omega) (fun k q1 q2=>hno k (.inr ⟨q1,by omega⟩))
  rw [show q + (p - q) = p by omega] at this
  exact this
/-- What a temporary holds, the operations in L having been carried out. -/
def Tr.slot (R : Tr P inv ops n a h a2 h2 ts) (L : Nat→Prop) (t : Tmp) (v : Value) : Prop :=
 (∃ j,j < n ∧ L j ∧ (R.T j).o.dst = some t ∧ (∀ j',j' < n→L j'→(R.T j').o.dst = some t→j' ≤ j) ∧ v = (R.T j).v) ∨
 ((∀ j,j < n→L j→(R.T j).o.dst ≠ some t) ∧ v = a.tmps.getD t unk)
theorem Tr.size (R : Tr P inv ops n a h a2 h2 ts) : ∀ k,k ≤ n→(R.A k).tmps.size = a.tmps.size:=by
 intro k
 induction k with
 | zero=>intro _; rw [R.A0]
 | succ k ih =>
  intro hk
  rw [(R.step k (by omega)).2.1]
  cases (R.T k).o.dst with
  | none=>exact ih (by omega)
  | some d=>simp [Act.put]; exact ih (by omega)
theorem Tr.slotA (R : Tr P inv ops n a h a2 h2 ts) (t : Tmp) (ht : t < a.tmps.size) : ∀ k,k ≤ n→R.slot (fun j=>j < k) t ((R.A k).tmps.getD t unk):=by
 intro k
 induction k with
 | zero=>intro _; right; rw [R.A0]; exact ⟨fun j _ hj=>by omega,rfl⟩
 | succ k ih =>
  intro hk
  have hA:=(R.step k (by omega)).2.1
  have hs:=R.size k (by omega)
  by_cases hd : (R.T k).o.dst = some t
  ·left
   refine ⟨k,by omega,by omega,hd,fun j' q1 q2 q3=>by omega,?_⟩
   rw [hA,hd]
   simp [Act.put,hs,ht]
  ·have hget : (R.A (k + 1)).tmps.getD t unk = (R.A k).tmps.getD t unk:=by
    rw [hA]
    cases hdd : (R.T k).o.dst with
    | none=>rfl
    | some d =>
     have : d ≠ t:=fun e=>hd (by rw [hdd,e])
     simp [Act.put,Array.getElem?_setIfInBounds_ne this]
   rw [hget]
   rcases ih (by omega) with ⟨j,q1,q2,q3,q4,q5⟩ | ⟨q1,q2⟩
   ·left
    refine ⟨j,q1,by omega,q3,fun j' z1 z2 z3=>?_,q5⟩
    by_cases hjk : j' = k
    ·subst hjk; exact absurd z3 hd
    ·exact q4 j' z1 (by omega) z3
   ·right
    refine ⟨fun j z1 z2 z3=>?_,q2⟩
    by_cases hjk : j = k
    ·subst hjk; exact hd z3
    ·exact q1 j z1 (by omega) z3
/-- The same writers, the same value. -/
theorem Tr.slot_eq (R : Tr P inv ops n a h a2 h2 ts) {L L' : Nat→Prop} {t : Tmp} {v v' : Value} (hs : R.slot L t v) (hs' : R.slot L' t v') (hL : ∀ j,j < n→(R.T j).o.dst = some t→(L j ↔ L' j)) : v = v':=by
 rcases hs with ⟨j,q1,q2,q3,q4,q5⟩ | ⟨q1,q2⟩
 ·rcases hs' with ⟨k,z1,z2,z3,z4,z5⟩ | ⟨z1,z2⟩
  ·have h1:=q4 k z1 ((hL k z1 z3).2 z2) z3
   have h2:=z4 j q1 ((hL j q1 q3).1 q2) q3
   have : j = k:=by omega
   subst this
   rw [q5,z5]
  ·exact absurd q3 (z1 j q1 ((hL j q1 q3).1 q2))
 ·rcases hs' with ⟨k,z1,z2,z3,z4,z5⟩ | ⟨z1,z2⟩
  ·exact absurd z3 (q1 k z1 ((hL k z1 z3).2 z2))
  ·rw [q2,z2]
/-- The mark of a new row that the world has not yet. -/
def Tr.mark (R : Tr P inv ops n a h a2 h2 ts) (j : Nat) : Mk:=.late (R.H j).n (((R.H (j + 1)).get (R.H j).n).getD .dead)
/-- Where the simulation stands: what is listed, how far the heavy ones have come, which new rows the world has not yet. -/
structure At (G : Code→Prop) (P : Program) (w0 : World) (D : List Mk) (inv : Inv) (ops : Array Oper) (n : Nat) (a : Act) (h : AH) (a2 : Act) (h2 : AH) (ts : List TR) (R : Tr P inv ops n a h a2 h2 ts)
  (ρ : Ren) (L : Nat→Prop) (p : Nat) (X : List Nat) (c : Act) (w : World) : Prop where
 closed : Closed ops L
 le : p ≤ n
 heavy : ∀ j,R.dh j→(L j→j < p) ∧ (j < p→L j ∨ looseAt P ops (masks ops) j = true)
 pend : ∀ j,j ∈ X ↔ R.dh j ∧ j < p ∧ ¬ L j
 sim : Sim G P w0 ρ (X.map R.mark ++ D) (R.H p) w
 size : c.tmps.size = a.tmps.size
 tmps : ∀ t,t < a.tmps.size→∃ v,R.slot L t v ∧ VR ρ v (c.tmps.getD t unk)
theorem getD_none {a : Array Value} {t : Nat} (ht : ¬ t < a.size) : a.getD t unk = unk:=by
 simp [Array.getElem?_eq_none (Nat.le_of_not_lt ht)]
variable {R}
/-- Carried out, an operation's value goes to its temporary. -/
theorem slot_put {L : Nat→Prop} {i : Nat} (hi : i < n) (hni : ¬ L i) {c : Act} {ρ ρ' : Ren} (hρ : ρ.le ρ') (hsz : c.tmps.size = a.tmps.size) (ht : ∀ t,t < a.tmps.size→∃ v,R.slot L t v ∧ VR ρ v (c.tmps.getD t unk))
  (hord : ∀ j,j < n→L j→∀ d,(R.T j).o.dst = some d→(R.T i).o.dst = some d→j < i) {v' : Value} (hv : VR ρ' (R.T i).v v') :
  ∀ t,t < a.tmps.size→∃ v,R.slot (fun j=>L j ∨ j = i) t v ∧ VR ρ' v ((c.put (R.T i).o.dst v').tmps.getD t unk):=by
 intro t htlt
 by_cases hd : (R.T i).o.dst = some t
 ·refine ⟨(R.T i).v,.inl ⟨i,hi,.inr rfl,hd,fun j' q1 q2 q3=>?_,rfl⟩,?_⟩
  ·rcases q2 with q2 | rfl
   ·exact Nat.le_of_lt (hord j' q1 q2 t q3 hd)
   ·exact Nat.le_refl _
  ·rw [hd]
   simp [Act.put,hsz,htlt]
   exact hv
 ·obtain ⟨v,q1,q2⟩:=ht t htlt
  refine ⟨v,?_,?_⟩
  ·rcases q1 with ⟨j,z1,z2,z3,z4,z5⟩ | ⟨z1,z2⟩
   ·refine .inl ⟨j,z1,.inl z2,z3,fun j' y1 y2 y3=>?_,z5⟩
    rcases y2 with y2 | rfl
    ·exact z4 j' y1 y2 y3
    ·exact absurd y3 hd
   ·refine .inr ⟨fun j y1 y2=>?_,z2⟩
    rcases y2 with y2 | rfl
    ·exact z1 j y1 y2
    ·exact hd
  ·have : (c.put (R.T i).o.dst v').tmps.getD t unk = c.tmps.getD t unk:=by
    cases hdd : (R.T i).o.dst with
    | none=>rfl
    | some d =>
     have : d ≠ t:=fun e=>hd (by rw [hdd,e])
     simp [Act.put,Array.getElem?_setIfInBounds_ne this]
   rw [this]
   exact q2.mono hρ
end draw
end Go.Proofs.Ev
