/- An evaluator of loaded Go functions over a small abstract memory, without a tape; what it says is shown of every run in Ev2 to Ev5. -/
import GoSem.Claim
import Derived.Calls
set_option linter.unusedVariables false
namespace Go.Proofs.Ev
open Go

/-! ### 1. The abstract memory -/
inductive AO where
  | cells (c : List Value) (elem : TypeId) (own : Bool)
  | map (es : List MapEntry) (clock : Nat)
  | iter (s : ByteArray) (pos : Nat)
  | loop (state : LoopState) (pending : Option Code) (fn : FuncId) (tmps : Array Value) (params : Array Tmp) (assign body : Code)
  | dead

structure AH where
  n : Nat
  l : List AO

def AH.get (h : AH) (i : Nat) : Option AO := if i < h.n then h.l[h.n - 1 - i]? else none
def AH.alloc (h : AH) (o : AO) : AH := ⟨h.n + 1, o :: h.l⟩
def AH.set (h : AH) (i : Nat) (o : AO) : AH := if i < h.n then ⟨h.n, h.l.set (h.n - 1 - i) o⟩ else h

theorem AH.get_set_other (h : AH) {i j : Nat} (o : AO) (hne : i ≠ j) : (h.set i o).get j = h.get j := by
  unfold AH.set
  split
  · unfold AH.get
    dsimp only
    split
    · rw [List.getElem?_set_ne (by omega)]
    · rfl
  · rfl
theorem AH.get_lt {h : AH} {i : Nat} {o : AO} (hi : h.get i = some o) : i < h.n := by
  unfold AH.get at hi; split at hi <;> simp_all
theorem AH.get_set_same (h : AH) {i : Nat} (o o' : AO) (hi : h.get i = some o') : (h.set i o).get i = some o := by
  have hlt := AH.get_lt hi
  unfold AH.set
  rw [if_pos hlt]
  unfold AH.get at *
  rw [if_pos hlt] at hi
  dsimp only
  rw [if_pos hlt]
  have : h.n - 1 - i < h.l.length := (List.getElem?_eq_some_iff.1 hi).1
  simp [this]
@[simp] theorem AH.n_alloc (h : AH) (o : AO) : (h.alloc o).n = h.n + 1 := rfl
@[simp] theorem AH.n_set (h : AH) (i : Nat) (o : AO) : (h.set i o).n = h.n := by unfold AH.set; split <;> rfl
theorem AH.get_alloc_new (h : AH) (o : AO) : (h.alloc o).get h.n = some o := by
  unfold AH.alloc AH.get; simp
theorem AH.get_alloc_old (h : AH) (o : AO) {i : Nat} (hi : i < h.n) : (h.alloc o).get i = h.get i := by
  unfold AH.alloc AH.get
  dsimp only
  rw [if_pos (by omega), if_pos hi]
  have : h.n + 1 - 1 - i = (h.n - 1 - i) + 1 := by omega
  rw [this]; rfl
theorem AH.get_ge (h : AH) {i : Nat} (hi : h.n ≤ i) : h.get i = none := by unfold AH.get; rw [if_neg (by omega)]

/-- One cell. -/
def AH.cell (h : AH) (b o : Nat) : Option Value := match h.get b with
  | some (.cells c _ _) => c[o]?
  | _ => none
/-- Cells in a row. -/
def AH.row (h : AH) (b o n : Nat) : Option (List Value) := match h.get b with
  | some (.cells c _ _) => if o + n ≤ c.length then some ((c.drop o).take n) else none
  | _ => none
def splice (c : List Value) (o : Nat) (vs : List Value) : List Value := c.take o ++ vs ++ c.drop (o + vs.length)
/-- Cells in a row, written: a block of one's own. -/
def AH.put (h : AH) (b o : Nat) (vs : List Value) : Option AH := match h.get b with
  | some (.cells c e true) => if o + vs.length ≤ c.length then some (h.set b (.cells (splice c o vs) e true)) else none
  | _ => none

/-! ### 2. Values -/
def unk : Value := .tuple #[]
def skipped : Value := .tuple #[.tuple #[]]
def kn : Value → Bool
  | .tuple vs => match vs.toList with
    | [] | [.tuple _] => false
    | _ => true
  | _ => true
def plain0 : Value → Bool
  | .bool _ | .int _ _ | .string _ | .float _ _ | .pointer none | .slice none _ _ | .map none | .nilFunc | .nilIface => true
  | _ => false
def plain : Value → Bool
  | .agg cs => cs.toList.all plain0
  | v => plain0 v
def oneCell : Value → Bool
  | .agg _ | .tuple _ => false
  | _ => true
def same0 : Value → Value → Bool
  | .bool a, .bool b => a == b
  | .int k a, .int j b => k == j && a == b
  | .string a, .string b => a == b
  | .pointer a, .pointer b => a == b
  | .slice a n c, .slice b m d => a == b && n == m && c == d
  | .map a, .map b => a == b
  | .nilFunc, .nilFunc => true
  | .nilIface, .nilIface => true
  | _, _ => false
def sameList : List Value → List Value → Bool
  | [], [] => true
  | x :: xs, y :: ys => same0 x y && sameList xs ys
  | _, _ => false
def sameV : Value → Value → Bool
  | .agg a, .agg b => sameList a.toList b.toList
  | .iface t x, .iface u y => t == u && same0 x y
  | .tuple a, .tuple b => a.size == 2 && sameList a.toList b.toList
  | .func f a b, .func g c d => f == g && sameList a.toList c.toList && sameList b.toList d.toList
  | x, y => same0 x y

/-! ### 3. What asks the program alone -/
def prun (P : Program) {α : Type} : Sem α → Option α
  | .pure a => some a
  | .program k => prun P (k P)
  | _ => none
def szT (P : Program) (t : TypeId) : Option Nat := (P.info? t).map (·.size)
def zeroT (P : Program) (t : TypeId) : Option Value := (P.info? t).bind (·.zero)
def bytesT (P : Program) (t : TypeId) : Option Nat := (P.info? t).map (·.bytes)
def isAggT (P : Program) (t : TypeId) : Option Bool := match P.underlying t with
  | some (.struct _) | some (.array _ _) => some true
  | some _ => some false
  | none => none
def elemT (P : Program) (t : TypeId) : Option TypeId := match P.underlying t with
  | some (.slice e) => some e
  | _ => none
def mapT (P : Program) (t : TypeId) : Option (TypeId × TypeId) := match P.underlying t with
  | some (.map k e) => some (k, e)
  | _ => none

/-! ### 4. The operations -/
def pLoad (P : Program) (t : TypeId) (v : Value) (h : AH) : Option Value :=
  match v with
  | .pointer (some a) => match isAggT P t, szT P t with
    | some true, some n => (h.row a.block a.off n).map fun cs => .agg cs.toArray
    | some false, some _ => h.cell a.block a.off
    | _, _ => none
  | _ => none
def pStore (P : Program) (t : TypeId) (v x : Value) (h : AH) : Option AH :=
  match v with
  | .pointer (some a) => if x.cells.toList.all oneCell && szT P t == some x.cells.size then h.put a.block a.off x.cells.toList else none
  | _ => none
def newCells (h : AH) (cs : List Value) (e : TypeId) : Value × AH := (.pointer (some ⟨h.n, 0, none⟩), h.alloc (.cells cs e true))
def pAlloc (P : Program) (t : TypeId) (h : AH) : Option (Value × AH) := match zeroT P t with
  | some z => if plain z then some (newCells h z.cells.toList t) else none
  | none => none
def pBox (P : Program) (t : TypeId) (v : Value) (h : AH) : Option (Value × AH) := if kn v && (szT P t).isSome then some (newCells h v.cells.toList t) else none
def pBuild (P : Program) (t : TypeId) (parts : Array (Nat × Value)) : Option Value :=
  match zeroT P t with
  | some z => if parts.toList.all (fun x => kn x.2) && plain z then prun P (Instr.build t parts) else none
  | none => none
def pBuildSlice (P : Program) (t : TypeId) (len : Nat) (parts : Array (Nat × Value)) (h : AH) : Option (Value × AH) :=
  match elemT P t with
  | none => none
  | some e => match szT P e, (if len * (szT P e).getD 0 = 0 then some #[] else (zeroT P e).map (·.cells)) with
    | some size, some zero =>
      if len * size > 2 ^ 24 || !parts.toList.all (fun x => kn x.2) || !(zero.toList.all plain0) then none
      else match Instr.fill (fun i => some (i * size, size)) ((Array.range (len * size)).map (zero[· % zero.size]!)) parts.toList with
        | some cells => some (.slice (some ⟨h.n, 0, none⟩) len len, h.alloc (.cells cells.toList e true))
        | none => none
    | _, _ => none
def pNilCheck : Value → Option Value
  | .pointer (some a) => some (.pointer (some a))
  | .iface t v => some (.iface t v)
  | .func (.func f) a b => some (.func (.func f) a b)
  | .func (.yield l) a b => some (.func (.yield l) a b)
  | .func (.methodOf t m) a b => some (.func (.methodOf t m) a b)
  | _ => none
def chk : Option Value → Option Value
  | some v => if plain v then some v else none
  | none => none
/-- Held against nil: not equal. -/
def nilCmp (P : Program) (t : TypeId) (x y : Value) : Bool :=
  match P.underlying t, x, y with
  | some (.pointer _), .pointer (some _), .pointer none | some (.pointer _), .pointer none, .pointer (some _) => true
  | some (.slice _), .slice (some _) _ _, .slice none _ _ | some (.slice _), .slice none _ _, .slice (some _) _ _ => true
  | some (.map ..), .map (some _), .map none | some (.map ..), .map none, .map (some _) => true
  | some (.func ..), .func .., .nilFunc | some (.func ..), .nilFunc, .func .. => true
  | some (.interface _), .iface .., .nilIface | some (.interface _), .nilIface, .iface .. => true
  | _, _, _ => false
def pBin (P : Program) (op : BinOp) (t : TypeId) (ox oy : Operand) (x y : Value) : Option Value :=
  if plain x && plain y then chk (prun P (do eqGuard op t ox oy x y; binOp op t x y))
  else match op with
    | .eql => if nilCmp P t x y then some (.bool false) else none
    | .neq => if nilCmp P t x y then some (.bool true) else none
    | _ => none
def pUn (P : Program) (op : UnOp) (x : Value) : Option Value := if plain x then chk (prun P (Op.unary op x)) else none
def bytesOf : List Value → Option (List UInt8)
  | [] => some []
  | .int .u8 n :: r => (bytesOf r).map (UInt8.ofNat n.toNat :: ·)
  | _ => none
/-- Conversions that make no memory. -/
def pConv (P : Program) (src dst : TypeId) (x : Value) (h : AH) : Option Value :=
  if plain x then (match x, P.underlying dst with
    | .string _, some (.slice _) => none
    | .slice none _ _, some .string => match (elemT P src).bind P.underlying with
      | some (.int .u8) => some (.string .empty)
      | _ => none
    | _, _ => chk (prun P (convert src dst x)))
  else match x, elemT P src, P.underlying dst with
    | .slice (some a) n _, some e, some .string =>
      match P.underlying e with
      | some (.int .u8) => match (if n = 0 then some [] else h.row a.block a.off n) with
        | some cs => (bytesOf cs).map fun bs => .string ⟨bs.toArray⟩
        | none => none
      | _ => none
    | _, _, _ => none
/-- A text's bytes in new memory. -/
def pBytes (P : Program) (src dst : TypeId) (x : Value) (h : AH) : Option (Value × AH) :=
  match x, elemT P dst with
  | .string s, some e =>
    match P.underlying src, P.underlying e, szT P e with
    | some .string, some (.int .u8), some 1 =>
      some (.slice (some ⟨h.n, 0, none⟩) s.size s.size, h.alloc (.cells (s.data.toList.map fun b => .int .u8 b.toNat) e true))
    | _, _, _ => none
  | .slice (some a) n c, some e => match P.underlying e, h.get a.block with
    | some (.int .u8), some (.cells cs e' true) => if src = dst ∧ n ≠ 0 then some (.slice (some a) n c, h.set a.block (.cells cs e' true)) else none
    | _, _ => none
  | _, _ => none
def pMakeIface (P : Program) (t : TypeId) (x : Value) : Option Value := if kn x then prun P (Instr.makeInterface t x) else none
def pMakeFunc (fn : Fn) (first captured : Array Value) : Option Value :=
  match fn with
  | .func _ | .methodOf _ _ => if first.toList.all kn && captured.toList.all kn then some (.func fn first captured) else none
  | _ => none
def pMakeMap (P : Program) (t : TypeId) (r : Option Value) (h : AH) : Option (Value × AH) :=
  match mapT P t, r with
  | some _, none | some _, some (.int _ _) => some (.map (some h.n), h.alloc (.map [] 0))
  | _, _ => none
def pMakeSlice (P : Program) (t : TypeId) (l c : Value) (h : AH) : Option (Value × AH) :=
  match elemT P t, l, c with
  | some e, .int .i64 l, .int .i64 c =>
    match szT P e, bytesT P e, zeroT P e with
    | some size, some bytes, some z =>
      if 0 ≤ l ∧ l ≤ c ∧ c ≤ 9223372036854775807 ∧ (bytes : Int) * c ≤ 2 ^ 47 ∧ z.cells.size = size ∧ z.cells.toList.all plain0 then
        some (.slice (some ⟨h.n, 0, none⟩) l.toNat c.toNat, h.alloc (.cells ((List.replicate c.toNat z.cells.toList).flatten) e true))
      else none
    | _, _, _ => none
  | _, _, _ => none
def intOr (d : Int) : Option Value → Option Int
  | none => some d
  | some (.int _ n) => some n
  | _ => none
/-- A block's elements are of that size. -/
def szOk (P : Program) (a : Option Addr) (size : Nat) (h : AH) : Bool := match a with
  | none => true
  | some a => match h.get a.block with
    | some (.cells _ e own) => !own || szT P e == some size
    | _ => false
def pSlice (P : Program) (t : TypeId) (x : Value) (lo hi mx : Option Value) (h : AH) : Option Value :=
  match x with
  | .string s => match P.underlying t, intOr 0 lo, intOr s.size hi, mx with
    | some .string, some l, some u, none => if 0 ≤ l ∧ l ≤ u ∧ u ≤ s.size then some (.string (s.extract l.toNat u.toNat)) else none
    | _, _, _, _ => none
  | .slice a n c => match (elemT P t).bind (szT P), intOr 0 lo, intOr n hi, intOr c mx with
    | some size, some l, some u, some m =>
      if 0 ≤ l ∧ l ≤ u ∧ u ≤ m ∧ m ≤ c ∧ (mx.isNone ∨ hi.isSome) ∧ (l = 0 ∨ mx.isSome ∨ szOk P a size h) then
        some (.slice (a.map fun a => ⟨a.block, a.off + l.toNat * size, none⟩) (u - l).toNat (m - l).toNat)
      else none
    | _, _, _, _ => none
  | _ => none
def pFieldAddr (P : Program) (s : TypeId) (x : Value) (f : Nat) : Option Value :=
  match P.underlying s, x with
  | some (.struct fs), .pointer (some a) => match fs[f]? with
    | some fd => match szT P fd.type with
      | some (_ + 1) => some (.pointer (some ⟨a.block, a.off + fd.offset, none⟩))
      | _ => none
    | none => none
  | _, _ => none
def pField (P : Program) (t : TypeId) (x : Value) (f : Nat) : Option Value := match x with
  | .agg cs => prun P (Instr.field t (.agg cs) f)
  | _ => none
def pIndexAddr (P : Program) (t : TypeId) (x i : Value) : Option Value :=
  match i, x, P.underlying t with
  | .int _ i, .slice (some a) n _, some (.slice e) => match szT P e with
    | some size => if 0 ≤ i ∧ i < n then some (.pointer (some ⟨a.block, a.off + i.toNat * size, none⟩)) else none
    | none => none
  | .int _ i, .pointer (some a), some (.array n e) => match szT P e with
    | some size => if 0 ≤ i ∧ i < n then some (.pointer (some ⟨a.block, a.off + i.toNat * size, none⟩)) else none
    | none => none
  | _, _, _ => none
def pIndex (P : Program) (t : TypeId) (x i : Value) : Option Value :=
  match i, x, P.underlying t with
  | .int _ i, .string s, some .string => if 0 ≤ i then (s[i.toNat]?).map fun b => .int .u8 b.toNat else none
  | .int k i, .agg cs, some (.array n e) => if 0 ≤ i ∧ i < n then (match szT P e with | some sz => prun P (part e cs (i.toNat * sz)) | none => none) else none
  | _, _, _ => none
def pExtract (x : Value) (i : Nat) : Option Value := match x with
  | .tuple vs => if kn (.tuple vs) then vs[i]? else none
  | _ => none
def pAssert (P : Program) (x : Value) (xT t : TypeId) (ok : Bool) : Option Value := match x with
  | .iface u v => match P.underlying t with
    | some (.interface _) => none
    | some _ => if u = t then some (if ok then .tuple #[v, .bool true] else v)
      else if ok then (match zeroT P t with | some z => if plain z then some (.tuple #[z, .bool false]) else none | none => none) else none
    | none => none
  | _ => none

/-! #### Maps: keys that are told apart by sight -/
def findE (kd : TypeDesc) (k : Value) : List MapEntry → Nat → Option (Option (Nat × Value))
  | [], _ => some none
  | e :: es, i => match Instr.sameNow kd k e.key with
    | some true => some (some (i, e.val))
    | some false => findE kd k es (i + 1)
    | none => none
def keyOk : TypeDesc → Value → Bool
  | .int _, .int _ _ => true
  | .string, .string _ => true
  | .bool, .bool _ => true
  | _, _ => false
def pLookup (P : Program) (t : TypeId) (x k : Value) (ok : Bool) (h : AH) : Option Value :=
  match mapT P t with
  | none => none
  | some (kt, et) => match P.underlying kt, (match x with
      | .map none => some []
      | .map (some r) => match h.get r with
        | some (.map es _) => some es
        | _ => none
      | _ => none) with
    | some kd, some es => if keyOk kd k then
        match findE kd k es 0, zeroT P et with
        | some (some (_, v)), _ => some (if ok then .tuple #[v, .bool true] else v)
        | some none, some z => if plain z then some (if ok then .tuple #[z, .bool false] else z) else none
        | _, _ => none
      else none
    | _, _ => none
def pUpdate (P : Program) (t : TypeId) (m k x : Value) (h : AH) : Option AH :=
  match mapT P t, m with
  | some (kt, _), .map (some r) => match P.underlying kt, h.get r with
    | some kd, some (.map es clock) => if keyOk kd k && kn x then
        match findE kd k es 0 with
        | some (some (i, _)) => some (h.set r (.map (es.modify i fun e => { e with key := k, val := x }) clock))
        | some none => some (h.set r (.map (es ++ [{ key := k, val := x, born := clock }]) (clock + 1)))
        | none => none
      else none
    | _, _ => none
  | _, _ => none

/-! #### Builtins -/
def pLen (P : Program) (ts : Array TypeId) (x : Value) (h : AH) : Option Value :=
  match ts[0]?.bind P.underlying, x with
  | some .string, .string s => some (goInt s.size)
  | some (.slice _), .slice _ n _ => some (goInt n)
  | some (.array n _), .agg _ => some (goInt n)
  | some (.map _ _), .map none => some (goInt 0)
  | some (.map _ _), .map (some r) => match h.get r with
    | some (.map es _) => some (goInt es.length)
    | _ => none
  | _, _ => none
def pMinMax (P : Program) (mx : Bool) (args : Array Value) : Option Value :=
  match args.toList with
  | .int k x :: rest => if rest.all (fun v => match v with | .int _ _ => true | _ => false) then
      chk (prun P (if mx then Builtin.max_ #[] 0 args else Builtin.min_ #[] 0 args)) else none
  | _ => none
def cellsOf (P : Program) (size n : Nat) (x : Value) (h : AH) : Option (List Value) :=
  match x with
  | .slice none _ _ => if n = 0 then some [] else none
  | .slice (some a) m _ => if n * size = 0 then some [] else if n ≤ m then h.row a.block a.off (n * size) else none
  | .string s => if n ≤ s.size then some (((s.extract 0 n).data.map fun b => Value.int .u8 b.toNat).toList) else none
  | _ => none
def lenE : Value → Option Nat
  | .slice _ n _ => some n
  | .string s => some s.size
  | _ => none
def kill (h : AH) (b o : Nat) : AH := match h.get b with
  | some (.cells c _ true) => if o = c.length then h.set b .dead else h
  | _ => h
def isIntT : TypeDesc → Bool
  | .int _ => true
  | _ => false
/-- append: always new memory; the block whose end the slice reaches is given up. -/
def pAppend (P : Program) (ts : Array TypeId) (s x : Value) (h : AH) : Option (Value × AH) :=
  match ts[0]?.bind (elemT P), ts[1]?.bind P.underlying, s with
  | some e, some u, .slice base n c => if isIntT u then none else
    match szT P e, bytesT P e, lenE x, zeroT P e with
    | some (size + 1), some bytes, some m, some z => match cellsOf P (size + 1) m x h, cellsOf P (size + 1) n s h with
      | some new, some old =>
        if n + m ≤ c then (match base with
          | none => some (.slice none (n + m) c, h)
          | some a => if new.isEmpty then some (.slice (some a) (n + m) c, h) else if new.all oneCell then (h.put a.block (a.off + n * (size + 1)) new).map fun h' => (.slice (some a) (n + m) c, h') else none)
        else if (n + m + 1024) * (bytes + 1) ≤ 2 ^ 46 && z.cells.toList.all plain0 && z.cells.size == size + 1 && szOk P base (size + 1) h && new.all oneCell && new.length == m * (size + 1) then
          some (.slice (some ⟨h.n, 0, none⟩) (n + m) (n + m),
            (match base with | none => h | some a => kill h a.block (a.off + c * (size + 1))).alloc (.cells (old ++ new) e true))
        else none
      | _, _ => none
    | _, _, _, _ => none
  | _, _, _ => none
def pCopy (P : Program) (ts : Array TypeId) (d x : Value) (h : AH) : Option (Value × AH) :=
  match ts[0]?.bind (elemT P), d, lenE x with
  | some e, .slice base n _, some m => match szT P e with
    | some size => match cellsOf P size (min m n) x h with
      | some cs => match base with
        | none => some (goInt (min m n : Nat), h)
        | some a => if cs.isEmpty then some (goInt (min m n : Nat), h) else if cs.all oneCell then (h.put a.block a.off cs).map fun h' => (goInt (min m n : Nat), h') else none
      | none => none
    | none => none
  | _, _, _ => none
def pClear (P : Program) (ts : Array TypeId) (x : Value) (h : AH) : Option AH :=
  match ts[0]?.bind (elemT P), x with
  | some _, .slice none _ _ => some h
  | some e, .slice (some a) n _ => if n = 0 then some h else match zeroT P e with
    | some z => if z.cells.toList.all plain0 then h.put a.block a.off ((List.replicate n z.cells.toList).flatten) else none
    | none => none
  | _, _ => none

/-! #### A text's runes -/
def pRange (P : Program) (t : TypeId) (x : Value) (h : AH) : Option (Value × AH) :=
  match P.underlying t, x with
  | some .string, .string s => some (.pointer (some ⟨h.n, 0, none⟩), h.alloc (.iter s 0))
  | _, _ => none
def pNext (x : Value) (isString : Bool) (h : AH) : Option (Value × AH) :=
  match x, isString with
  | .pointer (some ⟨r, 0, none⟩), true => match h.get r with
    | some (.iter s pos) => if pos < s.size then
        some (.tuple #[.bool true, goInt pos, .int .i32 (Utf8.decode s pos).1], h.set r (.iter s (pos + (Utf8.decode s pos).2)))
      else some (.tuple #[.bool false], h)
    | _ => none
  | _, _ => none

/-! ### 5. Methods -/
def eMeth (P : Program) (t : TypeId) (v : Value) (name : String) : Option (FuncId × Value) :=
  match P.info? t with
  | none => none
  | some i => match i.methods.find? (·.name == name) with
    | none => none
    | some m => if m.path.size = 0 then match m.func, P.underlying t with
        | some (f, true), some (.pointer _) => some (f, v)
        | some (_, true), _ => none
        | some (_, false), some (.pointer _) => none
        | some (f, false), some _ => some (f, v)
        | _, _ => none
      else none
/-- Where a call of a function value leads: a function, or a round of a range over a function. -/
def eTarget (P : Program) (fn : Fn) (captured args : Array Value) : Option (Bool × Nat × Array Value) :=
  match fn with
  | .func f => some (true, f, args ++ captured)
  | .yield l => some (false, l, args)
  | .method name => match (args[0]? : Option Value) with
    | some (.iface t v) => (eMeth P t v name).map fun (f, r) => (true, f, #[r] ++ args.extract 1 args.size)
    | _ => none
  | .methodOf t name => match (args[0]? : Option Value), P.underlying t with
    | some (.iface u v), some (.interface _) => (eMeth P u v name).map fun (f, r) => (true, f, #[r] ++ args.extract 1 args.size)
    | _, some (.interface _) => none
    | some x, some _ => (eMeth P t x name).map fun (f, r) => (true, f, #[r] ++ args.extract 1 args.size)
    | _, _ => none
  | .via .. => none

/-! ### 6. One operation -/
def eLight (P : Program) (o : Oper) (ev : Operand → Value) (h : AH) : Option Value :=
  match o.op with
  | .move x | .assign x => some (ev x)
  | .pick c a b => match ev c with
    | .bool true => some (ev a)
    | .bool false => some (ev b)
    | _ => none
  | .load t a => pLoad P t (ev a) h
  | .nilCheck x => pNilCheck (ev x)
  | .binOp op t x y _ => pBin P op t x y (ev x) (ev y)
  | .unOp op _ x => pUn P op (ev x)
  | .convert s d x => pConv P s d (ev x) h
  | .field t x f => pField P t (ev x) f
  | .fieldAddr t x f => pFieldAddr P t (ev x) f
  | .index t x i => pIndex P t (ev x) (ev i)
  | .indexAddr t x i => pIndexAddr P t (ev x) (ev i)
  | .slice t x lo hi mx => pSlice P t (ev x) (lo.map ev) (hi.map ev) (mx.map ev) h
  | .extract x i => pExtract (ev x) i
  | .makeInterface t x => pMakeIface P t (ev x)
  | .makeFunc fn first captured => pMakeFunc fn (first.map ev) (captured.map ev)
  | .build t parts => pBuild P t (parts.map fun (i, x) => (i, ev x))
  | .lookup t x i ok => pLookup P t (ev x) (ev i) ok h
  | .typeAssert x xt t ok => pAssert P (ev x) xt t ok
  | .call c => match c.callee, c.args.toList with
    | .builtin .len, [x] => pLen P c.argTypes (ev x) h
    | .builtin .max, _ => pMinMax P true (c.args.map ev)
    | .builtin .min, _ => pMinMax P false (c.args.map ev)
    | _, _ => none
  | _ => none
abbrev Inv := Fn → Array Value → Array Value → AH → Option (Value × AH)
def eHeavy (P : Program) (inv : Inv) (o : Oper) (ev : Operand → Value) (h : AH) : Option (Value × AH) :=
  match o.op with
  | .alloc t => pAlloc P t h
  | .box t x => pBox P t (ev x) h
  | .buildSlice t n parts => pBuildSlice P t n (parts.map fun (i, x) => (i, ev x)) h
  | .store t a x => (pStore P t (ev a) (ev x) h).map fun h' => (unk, h')
  | .convert s d x => pBytes P s d (ev x) h
  | .makeMap t r => pMakeMap P t (r.map ev) h
  | .makeSlice t l c => pMakeSlice P t (ev l) (ev c) h
  | .mapUpdate t m k x | .insert t m k x => (pUpdate P t (ev m) (ev k) (ev x) h).map fun h' => (unk, h')
  | .range t x => pRange P t (ev x) h
  | .next x s => pNext (ev x) s h
  | .call c => match c.callee with
    | .value f => match ev f with
      | .func fn first captured => inv fn captured (first ++ c.args.map ev) h
      | _ => none
    | .invoke r name => inv (.method name) #[] (#[ev r] ++ c.args.map ev) h
    | .builtin .append => match c.args.toList with
      | [s, x] => pAppend P c.argTypes (ev s) (ev x) h
      | _ => none
    | .builtin .copy => match c.args.toList with
      | [d, x] => pCopy P c.argTypes (ev d) (ev x) h
      | _ => none
    | .builtin .clear => match c.args.toList with
      | [x] => (pClear P c.argTypes (ev x) h).map fun h' => (unk, h')
      | _ => none
    | _ => none
  | _ => none
def isLight (P : Program) (o : Oper) : Bool :=
  match o.op with
  | .move _ | .assign _ | .pick .. | .load .. | .nilCheck _ | .binOp .. | .unOp .. | .field .. | .fieldAddr .. | .index .. | .indexAddr ..
  | .slice .. | .extract .. | .makeInterface .. | .makeFunc .. | .build .. | .lookup .. | .typeAssert .. => true
  | .convert _ d _ => match P.underlying d with
    | some (.slice _) => false
    | _ => true
  | .call c => match c.callee with
    | .builtin .len | .builtin .max | .builtin .min => true
    | _ => false
  | _ => false
def readsH (o : Oper) : Bool :=
  match o.op with
  | .load .. | .lookup .. | .convert .. | .slice .. => true
  | .call _ => true
  | _ => false
def eOp (P : Program) (inv : Inv) (o : Oper) (ev : Operand → Value) (h : AH) : Option (Value × AH) :=
  if isLight P o then (eLight P o ev h).map fun v => (v, h) else eHeavy P inv o ev h

/-! ### 6b. Forcing: each of these is 'k x'; in the kernel they bring x into its plainest form first -/
section
variable {β : Type}
def fcN (n : Nat) (k : Nat → β) : β := match n with
  | 0 => k 0
  | m + 1 => k (Nat.succ m)
theorem fcN_eq (n : Nat) (k : Nat → β) : fcN n k = k n := by cases n <;> rfl
def fcI (z : Int) (k : Int → β) : β := match z with
  | .ofNat n => fcN n fun n => k (.ofNat n)
  | .negSucc n => fcN n fun n => k (.negSucc n)
theorem fcI_eq (z : Int) (k : Int → β) : fcI z k = k z := by cases z <;> simp [fcI, fcN_eq]
def fcB (b : Bool) (k : Bool → β) : β := match b with
  | true => k true
  | false => k false
theorem fcB_eq (b : Bool) (k : Bool → β) : fcB b k = k b := by cases b <;> rfl
def fcL {α : Type} (f : α → (α → β) → β) : List α → (List α → β) → β
  | [], k => k []
  | x :: xs, k => f x fun x => fcL f xs fun xs => k (x :: xs)
theorem fcL_eq {α : Type} {f : α → (α → β) → β} (hf : ∀ x k, f x k = k x) (l : List α) (k : List α → β) : fcL f l k = k l := by
  induction l generalizing k with
  | nil => rfl
  | cons x xs ih => simp [fcL, hf, ih]
def fcU (b : UInt8) (k : UInt8 → β) : β := fcN b.toNat fun n => k (UInt8.ofNat n)
theorem fcU_eq (b : UInt8) (k : UInt8 → β) : fcU b k = k b := by simp [fcU, fcN_eq]
def fcS (s : ByteArray) (k : ByteArray → β) : β := fcL fcU s.data.toList fun l => k ⟨⟨l⟩⟩
theorem fcS_eq (s : ByteArray) (k : ByteArray → β) : fcS s k = k s := by simp [fcS, fcL_eq fcU_eq]
def fcAd (a : Addr) (k : Addr → β) : β := match a with
  | ⟨b, o, s⟩ => fcN b fun b => fcN o fun o => k ⟨b, o, s⟩
theorem fcAd_eq (a : Addr) (k : Addr → β) : fcAd a k = k a := by simp [fcAd, fcN_eq]
def fcFn (f : Fn) (k : Fn → β) : β := match f with
  | .yield l => fcN l fun l => k (.yield l)
  | f => k f
theorem fcFn_eq (f : Fn) (k : Fn → β) : fcFn f k = k f := by cases f <;> simp [fcFn, fcN_eq]
def fcA (f : Value → (Value → β) → β) (a : Array Value) (k : Array Value → β) : β := fcL f a.toList fun l => k ⟨l⟩
theorem fcA_eq {f : Value → (Value → β) → β} (hf : ∀ x k, f x k = k x) (a : Array Value) (k : Array Value → β) : fcA f a k = k a := by simp [fcA, fcL_eq hf]
def fcV : Nat → Value → (Value → β) → β
  | 0, v, k => k v
  | d + 1, v, k => match v with
    | .bool b => fcB b fun b => k (.bool b)
    | .int t n => fcI n fun n => k (.int t n)
    | .string s => fcS s fun s => k (.string s)
    | .pointer (some a) => fcAd a fun a => k (.pointer (some a))
    | .slice none n c => fcN n fun n => fcN c fun c => k (.slice none n c)
    | .slice (some a) n c => fcAd a fun a => fcN n fun n => fcN c fun c => k (.slice (some a) n c)
    | .map (some r) => fcN r fun r => k (.map (some r))
    | .func fn x y => fcFn fn fun fn => fcA (fcV d) x fun x => fcA (fcV d) y fun y => k (.func fn x y)
    | .iface t v => fcV d v fun v => k (.iface t v)
    | .agg a => fcA (fcV d) a fun a => k (.agg a)
    | .tuple a => fcA (fcV d) a fun a => k (.tuple a)
    | v => k v
theorem fcV_eq (d : Nat) (v : Value) (k : Value → β) : fcV d v k = k v := by
  induction d generalizing v k with
  | zero => rfl
  | succ d ih =>
    have hA : ∀ (a : Array Value) (k : Array Value → β), fcA (fcV d) a k = k a := fun a k => fcA_eq ih a k
    unfold fcV
    split <;> simp [fcB_eq, fcI_eq, fcS_eq, fcAd_eq, fcN_eq, fcFn_eq, hA, ih]
def fcE (e : MapEntry) (k : MapEntry → β) : β := match e with
  | ⟨x, y, b⟩ => fcV 8 x fun x => fcV 8 y fun y => fcN b fun b => k ⟨x, y, b⟩
theorem fcE_eq (e : MapEntry) (k : MapEntry → β) : fcE e k = k e := by simp [fcE, fcV_eq, fcN_eq]
def fcO (o : AO) (k : AO → β) : β := match o with
  | .cells c e own => fcL (fcV 8) c fun c => fcB own fun own => k (.cells c e own)
  | .map es clk => fcL fcE es fun es => fcN clk fun clk => k (.map es clk)
  | .iter s p => fcN p fun p => k (.iter s p)
  | .loop st pd f ts ps as bd => fcA (fcV 8) ts fun ts => k (.loop st pd f ts ps as bd)
  | .dead => k .dead
theorem fcO_eq (o : AO) (k : AO → β) : fcO o k = k o := by
  cases o <;> simp [fcO, fcL_eq (fcV_eq 8), fcL_eq fcE_eq, fcA_eq (fcV_eq 8), fcN_eq, fcB_eq]
def fcPre : Nat → List AO → (List AO → β) → β
  | 0, l, k => k l
  | _ + 1, [], k => k []
  | d + 1, o :: l, k => fcO o fun o => fcPre d l fun l => k (o :: l)
theorem fcPre_eq (d : Nat) (l : List AO) (k : List AO → β) : fcPre d l k = k l := by
  induction d generalizing l k with
  | zero => rfl
  | succ d ih => cases l <;> simp [fcPre, fcO_eq, ih]
def fcH (d : Nat) (h : AH) (k : AH → β) : β := match h with
  | ⟨n, l⟩ => fcN n fun n => fcPre d l fun l => k ⟨n, l⟩
theorem fcH_eq (d : Nat) (h : AH) (k : AH → β) : fcH d h k = k h := by simp [fcH, fcN_eq, fcPre_eq]
/-- Temporaries, one of them put. -/
def fcPut : Nat → Value → List Value → (List Value → β) → β
  | _, _, [], k => k []
  | 0, v, _ :: l, k => k (v :: l)
  | d + 1, v, x :: l, k => fcPut d v l fun l => k (x :: l)
theorem fcPut_eq (d : Nat) (v : Value) (l : List Value) (k : List Value → β) : fcPut d v l k = k (l.set d v) := by
  induction l generalizing d k with
  | nil => simp [fcPut]
  | cons x l ih => cases d <;> simp [fcPut, ih]
end
def depthOf (h : AH) : Value → Nat
  | .pointer (some a) => h.n - a.block
  | .slice (some a) _ _ => h.n - a.block
  | .map (some r) => h.n - r
  | _ => 0
/-- How far from the newest the objects lie that an operation may have turned. -/
def reach (o : Oper) (ev : Operand → Value) (h h2 : AH) : Nat :=
  match o.op with
  | .store _ a _ => depthOf h (ev a)
  | .mapUpdate _ m _ _ | .insert _ m _ _ => depthOf h (ev m)
  | .next x _ => depthOf h (ev x)
  | .call c => match c.callee, c.args.toList with
    | .builtin _, s :: _ => depthOf h (ev s) + (h2.n - h.n)
    | _, _ => 0
  | _ => h2.n - h.n
def evL (a : Act) : Operand → Value
  | .tmp t => (a.tmps.toList[t]?).getD undef
  | .const v => v
  | .global g => .pointer (some ⟨g, 0, none⟩)
  | .func f => .func (.func f) #[] #[]
theorem evL_eq (a : Act) : evL a = a.eval := by
  funext x
  cases x <;> simp [evL, Act.eval]

/-! ### 7. A region -/
def wantedE (ops : Array Oper) (o : Oper) (tmps : Array Value) : Option Bool :=
  match o.guard with
  | none => some true
  | some (j, want) => match ((ops.toList[j]?).bind (·.dst)).bind (tmps.toList[·]?) with
    | some (.bool b) => some (b == want)
    | some (.tuple vs) => match vs.toList with
      | [.tuple us] => if us.size = 0 then some false else none
      | _ => none
    | _ => none
structure TR where
  i : Nat
  o : Oper
  a : Act
  h : AH
  v : Value
  h2 : AH
  did : Bool
def eStep (P : Program) (inv : Inv) (ops : Array Oper) (i : Nat) (a : Act) (h : AH) : Option TR :=
  match ops.toList[i]? with
  | none => none
  | some o => match wantedE ops o a.tmps with
    | none => none
    | some false => some ⟨i, o, a, h, skipped, h, false⟩
    | some true => match eOp P inv o (evL a) h with
      | some (v, h2) => fcV 8 v fun v => fcH (if isLight P o then 0 else reach o (evL a) h h2) h2 fun h2 => some ⟨i, o, a, h, v, h2, true⟩
      | none => none
/-- The temporaries behind an operation. -/
def putF {β : Type} (a : Act) (d : Option Tmp) (v : Value) (k : Act → β) : β := match a, d with
  | ⟨t, ds⟩, some d => fcPut d v t.toList fun l => k ⟨⟨l⟩, ds⟩
  | a, none => k a
theorem putF_eq {β : Type} (a : Act) (d : Option Tmp) (v : Value) (k : Act → β) : putF a d v k = k (a.put d v) := by
  cases d with
  | none => rfl
  | some d =>
    simp only [putF, fcPut_eq, Act.put]
    congr 2
    exact Array.toList_inj.1 (by simp)
def eTrace (P : Program) (inv : Inv) (ops : Array Oper) : List Nat → Act → AH → Option (List TR × Act × AH)
  | [], a, h => some ([], a, h)
  | i :: is, a, h => match eStep P inv ops i a h with
    | none => none
    | some t => putF a t.o.dst t.v fun a => match eTrace P inv ops is a t.h2 with
      | none => none
      | some (ts, a', h') => some (t :: ts, a', h')
def eOps (P : Program) (inv : Inv) (ops : Array Oper) : List Nat → Act → AH → Option (Act × AH)
  | [], a, h => some (a, h)
  | i :: is, a, h => match eStep P inv ops i a h with
    | none => none
    | some t => putF a t.o.dst t.v fun a => eOps P inv ops is a t.h2
/-- Which operations stand ahead of one, as bits. -/
def maskOf (acc : Array Nat) (o : Oper) : Nat := o.after.toList.foldl (fun s e => if Region.binds .any e then s ||| 2 ^ e.on ||| acc.getD e.on 0 else s) 0
def masks (ops : Array Oper) : Array Nat := ops.toList.foldl (fun acc o => acc.push (maskOf acc o)) #[]
def ordered (m : Array Nat) (i j : Nat) : Bool := i == j || (m.getD i 0).testBit j || (m.getD j 0).testBit i
def sameO : Option Value → Value → Bool
  | some x, y => sameV x y
  | none, _ => false
/-- Which readings are unordered against which heavy operations. -/
def needs (P : Program) (ops : Array Oper) : List (Nat × Nat) :=
  let m := masks ops
  (List.range ops.size).flatMap fun i => ((List.range ops.size).filter fun j => match ops.toList[i]?, ops.toList[j]? with
    | some x, some y => isLight P x && readsH x && !isLight P y && !ordered m i j
    | _, _ => false).map fun j => (i, j)
def chkT (P : Program) (t u : TR) : Bool := !t.did || !u.did || (sameO (eLight P t.o t.a.eval u.h) t.v && sameO (eLight P t.o t.a.eval u.h2) t.v)
/-- What is read is the same whenever it may be read. -/
def calm (P : Program) (ops : Array Oper) (ts : List TR) : Bool :=
  (needs P ops).all fun x => match ts[x.1]?, ts[x.2]? with
    | some t, some u => chkT P t u
    | _, _ => false
/-- Operations that make a new row of cells and look at nothing in memory. -/
def freshOp (o : Oper) : Bool := match o.op with
  | .alloc _ | .box .. | .buildSlice .. => true
  | _ => false
def lightQuiet (P : Program) (o : Oper) : Bool := isLight P o && !readsH o
/-- Such an operation that nothing but light operations stands ahead of. -/
def looseAt (P : Program) (ops : Array Oper) (m : Array Nat) (i : Nat) : Bool := match ops.toList[i]? with
  | some o => freshOp o && o.guard.isNone && (List.range ops.size).all fun k => !(m.getD i 0).testBit k || (match ops.toList[k]? with
    | some x => lightQuiet P x
    | none => true)
  | none => false
/-- Heavy operations that are not ordered. -/
def loose (P : Program) (ops : Array Oper) : Bool :=
  let hs := (List.range ops.size).filter fun i => match ops.toList[i]? with
    | some x => !isLight P x
    | none => false
  match hs with
  | [] => false
  | [_] => false
  | hs => let m := masks ops
    hs.any fun i => hs.any fun j => decide (i < j) && !ordered m i j
/-- The order in which new rows come first. -/
def drawPerm (P : Program) (ops : Array Oper) : List Nat := let m := masks ops
  let fs := (List.range ops.size).filter (looseAt P ops m)
  let first := (List.range ops.size).filter fun i => fs.contains i || fs.any fun j => (m.getD j 0).testBit i
  first ++ (List.range ops.size).filter fun i => !first.contains i
def movedOp (π : List Nat) (o : Oper) : Oper := { o with after := o.after.map (fun e => { e with on := π.idxOf e.on }), guard := o.guard.map fun g => (π.idxOf g.1, g.2) }
def permOps (π : List Nat) (ops : Array Oper) : Array Oper := (π.map fun i => movedOp π ((ops.toList[i]?).getD default)).toArray
def okPerm (π : List Nat) (n : Nat) : Bool := π.length == n && (List.range n).all fun i => π.idxOf (π.getD i n) == i && π.getD (π.idxOf i) n == i && decide (π.idxOf i < n) && decide (π.getD i n < n)
/-- The operations in the order in which a drawn region is carried out here. -/
def drawOps (P : Program) (ops : Array Oper) : Array Oper := if loose P ops then permOps (drawPerm P ops) ops else ops
def eRegion (P : Program) (inv : Inv) (ops : Array Oper) (draw : Bool) (a : Act) (h : AH) : Option (Act × AH) :=
  if draw then
    match eTrace P inv (drawOps P ops) (List.range (drawOps P ops).size) a h with
    | none => none
    | some (ts, a', h') => if calm P (drawOps P ops) ts then some (a', h') else none
  else eOps P inv ops (List.range ops.size) a h

/-! ### 8. Code -/
inductive XE where
  | normal | ret | exit (id : Nat)
  deriving DecidableEq
structure Env where
  P : Program
  L : FuncId → Bool
  FT : FuncId → Nat → List Tmp
  O : FuncId → Option (Array Value → AH → Option (Value × AH))
  X : FuncId → Option (Array Value → Option Value)
/-- A value whose call enters a function. -/
def Env.enters (E : Env) : Value → Bool
  | .func (.func f) _ _ => (E.L f || (E.O f).isSome) && (E.X f).isNone
  | _ => false
def forget (ts : List Tmp) (a : Act) : Act := { a with tmps := ts.foldl (fun t i => t.setIfInBounds i unk) a.tmps }
abbrev St := Option (XE × Act × AH)
def eLoop (body : Act → AH → St) : Nat → Act → AH → St
  | 0, _, _ => none
  | k + 1, a, h => match body a h with
    | some (.normal, a', h') => eLoop body k a' h'
    | r => r
/-- The ways out that a code names. -/
def exitIds : Code → List Nat
  | .exit id => [id]
  | .seq x y | .cond _ x y | .rangeFunc _ _ x y => exitIds x ++ exitIds y
  | .block _ c | .loop c | .scope c => exitIds c
  | _ => []
def hasRet : Code → Bool
  | .ret => true
  | .seq x y | .cond _ x y | .rangeFunc _ _ x y => hasRet x || hasRet y
  | .block _ c | .loop c | .scope c => hasRet c
  | _ => false
def eRange (f : FuncId) (inv : Inv) (g : Value) (params : Array Tmp) (assign body : Code) (a : Act) (h : AH) : St :=
  match g with
  | .func (.func fn) first captured =>
    match inv (.func fn) captured (first ++ #[.func (.yield h.n) #[] #[]]) (h.alloc (.loop .ready none f a.tmps params assign body)) with
    | some (_, h') => match h'.get h.n with
      | some (.loop st pend f' ts ps as bd) =>
        if st = .busy then none else
        let h2 := h'.set h.n (.loop .exhausted pend f' ts ps as bd)
        match pend with
        | none => some (.normal, a, h2)
        | some .ret => if hasRet body then some (.ret, a, h2) else none
        | some (.exit id) => if (exitIds body).contains id then some (.exit id, a, h2) else none
        | some _ => none
      | _ => none
    | none => none
  | _ => none
/-- 'rd': the code of a round (a range over a function in it is not taken in). -/
def eCode (E : Env) (f : FuncId) (rd : Bool) (inv : Inv) (k : Nat) : Code → Act → AH → St
  | .skip, a, h | .label _, a, h => some (.normal, a, h)
  | .ret, a, h => some (.ret, a, h)
  | .exit id, a, h => some (.exit id, a, h)
  | .seq x y, a, h => match eCode E f rd inv k x a h with
    | some (.normal, a', h') => eCode E f rd inv k y a' h'
    | r => r
  | .cond c x y, a, h => match a.eval c with
    | .bool true => eCode E f rd inv k x a h
    | .bool false => eCode E f rd inv k y a h
    | _ => none
  | .block id c, a, h => match eCode E f rd inv k c a h with
    | some (.exit id', a', h') => if id' = id then some (.normal, a', h') else some (.exit id', a', h')
    | r => r
  | .scope c, a, h => eCode E f rd inv k c a h
  | .loop c, a, h => eLoop (eCode E f rd inv k c) k a h
  | .region id ops draw, a, h => (eRegion E.P inv ops draw a h).map fun (a', h') => (.normal, forget (E.FT f id) a', h')
  | .rangeFunc g ps as bd, a, h => if rd || !E.enters (a.eval g) then none else eRange f inv (a.eval g) ps as bd a h
  | _, _, _ => none

/-! ### 9. Functions -/
def eResult (P : Program) (a : Act) (h : AH) : ResultVar → Option Value
  | .tmp t => some (a.tmps.getD t unk)
  | .cell t ty => pLoad P ty (a.tmps.getD t unk) h
def eResultList (P : Program) (a : Act) (h : AH) : List ResultVar → Option (List Value)
  | [] => some []
  | r :: rs => match eResult P a h r, eResultList P a h rs with
    | some v, some vs => some (v :: vs)
    | _, _ => none
def eResults (P : Program) (fn : Func) (a : Act) (h : AH) : Option Value := match eResultList P a h fn.results.toList with
  | some [v] => some v
  | some vs => some (.tuple vs.toArray)
  | none => none
def eFun (E : Env) (k : Nat) (inv : Inv) (f : FuncId) (args : Array Value) (h : AH) : Option (Value × AH) :=
  match E.O f with
  | some g => g args h
  | none => if E.L f then match E.P.funcs[f]? with
      | some fn => match fn.body with
        | some c => match fcA (fcV 8) (args ++ Array.replicate (fn.ntmps - args.size) unk) fun ts => eCode E f false inv k c { tmps := ts, defers := [] } h with
          | some (.normal, a, h') | some (.ret, a, h') => (eResults E.P fn a h').map fun v => (v, h')
          | _ => none
        | none => none
      | none => none
    else none
def eRound (E : Env) (k : Nat) (inv : Inv) (l : Nat) (args : Array Value) (h : AH) : Option (Value × AH) :=
  match h.get l with
  | some (.loop .ready _ f ts ps as bd) =>
    if args.size ≠ ps.size then none else
    match fcA (fcV 8) ((ps.zip args).foldl (fun tmps (t, a) => tmps.setIfInBounds t a) ts) fun ts => eCode E f true inv k as { tmps := ts, defers := [] } h with
    | some (.normal, a1, h1) => match h1.get l with
      | some (.loop .ready pend f1 ts1 ps1 as1 bd1) => match eCode E f true inv k bd a1 (h1.set l (.loop .busy pend f1 ts1 ps1 as1 bd1)) with
        | some (x, _, h2) => match h2.get l with
          | some (.loop _ _ f2 ts2 ps2 as2 bd2) =>
            let pend : Option Code := match x with
              | .normal => none
              | .ret => some .ret
              | .exit id => some (.exit id)
            some (.bool pend.isNone, h2.set l (.loop (if pend.isNone then .ready else .done) pend f2 ts2 ps2 as2 bd2))
          | _ => none
        | none => none
      | _ => none
    | _ => none
  | _ => none
def eInv (E : Env) : Nat → Inv
  | 0 => fun _ _ _ _ => none
  | k + 1 => fun fn captured args h => match eTarget E.P fn captured args with
    | some (true, f, as) => (match E.X f with
      | some g => (g as).map fun v => (v, h)
      | none => eFun E k (eInv E k) f as h)
    | some (false, l, as) => eRound E k (eInv E k) l as h
    | none => none
end Go.Proofs.Ev
