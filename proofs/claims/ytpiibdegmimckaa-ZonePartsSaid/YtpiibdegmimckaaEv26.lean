/- Structs held against each other. -/
import Derived.Test.YtpiibdegmimckaaEv25
set_option linter.unusedVariables false
set_option linter.unusedSimpArgs false
namespace Go.Proofs.Ev
open Go Go.RowKit
variable {P : Program}
theorem prun_program : prun P program = some P := rfl
def prunFields (P : Program) (d : Nat) (xs ys : Array Value) : List Field → Option Bool
  | [] => some true
  | f :: fs => if f.name ≠ "_" then (prun P (part f.type xs f.offset)).bind fun a => (prun P (part f.type ys f.offset)).bind fun b => (prun P (Op.equalIn d f.type a b)).bind fun r =>
      bif r then prunFields P d xs ys fs else some false
    else prunFields P d xs ys fs
theorem prun_equal_struct {d : Nat} {t : TypeId} {xs ys : Array Value} (ht : P.underlying t = some (.struct (P.fieldsOf t))) (hp : P.stoodInHeld t = false) :
    prun P (Op.equalIn (d + 1) t (.agg xs) (.agg ys)) = prunFields P d xs ys (P.fieldsOf t).toList := by
  unfold Op.equalIn
  rw [prun_und' ht]
  simp only [prun_bind, prun_program, Option.bind_some, hp, Bool.false_eq_true, if_false]
  rw [← Array.forIn_toList]
  generalize (P.fieldsOf t).toList = fs
  clear ht
  induction fs with
  | nil => rfl
  | cons f fs ih =>
    simp only [List.forIn_cons, prunFields, prun_bind]
    split
    · simp only [prun_bind]
      cases prun P (part f.type xs f.offset) with
      | none => rfl
      | some a =>
        simp only [Option.bind_some]
        cases prun P (part f.type ys f.offset) with
        | none => rfl
        | some b =>
          simp only [Option.bind_some]
          cases prun P (Op.equalIn d f.type a b) with
          | none => rfl
          | some r =>
            cases r
            · rfl
            · simp only [Option.bind_some, Bool.not_true, Bool.false_eq_true, if_false, prun_pure, cond_true]
              exact ih
    · simp only [prun_pure, Option.bind_some]
      exact ih
theorem prun_equal_int {d : Nat} {t : TypeId} {k k' : IntKind} {a b : Int} (h : P.underlying t = some (.int k')) : prun P (Op.equalIn (d + 1) t (.int k a) (.int k b)) = some (a == b) := by
  unfold Op.equalIn
  rw [prun_und' h]
  simp only [if_true]
  rfl
theorem prun_equal_bool {d : Nat} {t : TypeId} {a b : Bool} (h : P.underlying t = some .bool) : prun P (Op.equalIn (d + 1) t (.bool a) (.bool b)) = some (a == b) := by
  unfold Op.equalIn
  rw [prun_und' h]
  rfl
theorem prun_equal_string {d : Nat} {t : TypeId} {a b : ByteArray} (h : P.underlying t = some .string) : prun P (Op.equalIn (d + 1) t (.string a) (.string b)) = some (a == b) := by
  unfold Op.equalIn
  rw [prun_und' h]
  rfl
theorem prun_seq {α β : Type} (x : Sem α) (y : Sem β) : prun P (do let _ ← x; y) = (prun P x).bind fun _ => prun P y := prun_bind _ _
theorem prun_guard_agg {op : BinOp} (hop : op = .eql ∨ op = .neq) {t : TypeId} {ox oy : Operand} {xs ys : Array Value} (hg : P.eqGuardType P.depth t = false) : prun P (eqGuard op t ox oy (.agg xs) (.agg ys)) = some () := by
  rcases hop with rfl | rfl <;> unfold eqGuard <;> simp only [Bool.not_true, Bool.false_eq_true, if_false, prun_bind, prun_program, Option.bind_some, hg, Bool.not_false, if_true] <;> rfl
theorem bin_eql_agg {t : TypeId} {ox oy : Operand} {xs ys : Array Value} {r : Bool} (h1 : plain (.agg xs) = true) (h2 : plain (.agg ys) = true) (hg : P.eqGuardType P.depth t = false) (he : prun P (Op.equalIn 10000 t (.agg xs) (.agg ys)) = some r) :
    pBin P .eql t ox oy (.agg xs) (.agg ys) = some (.bool r) := by
  unfold pBin
  rw [h1, h2]
  simp only [Bool.and_self, if_true]
  have : prun P (do eqGuard .eql t ox oy (.agg xs) (.agg ys); binOp .eql t (.agg xs) (.agg ys)) = some (.bool r) := by
    rw [prun_bind, prun_guard_agg (.inl rfl) hg]
    refine (prun_bind (Op.equalIn 10000 t (.agg xs) (.agg ys)) _).trans ?_
    rw [he]
    rfl
  rw [this]
  rfl
theorem bin_neq_agg {t : TypeId} {ox oy : Operand} {xs ys : Array Value} {r : Bool} (h1 : plain (.agg xs) = true) (h2 : plain (.agg ys) = true) (hg : P.eqGuardType P.depth t = false) (he : prun P (Op.equalIn 10000 t (.agg xs) (.agg ys)) = some r) :
    pBin P .neq t ox oy (.agg xs) (.agg ys) = some (.bool (!r)) := by
  unfold pBin
  rw [h1, h2]
  simp only [Bool.and_self, if_true]
  have : prun P (do eqGuard .neq t ox oy (.agg xs) (.agg ys); binOp .neq t (.agg xs) (.agg ys)) = some (.bool (!r)) := by
    rw [prun_bind, prun_guard_agg (.inr rfl) hg]
    refine (prun_bind (Op.equalIn 10000 t (.agg xs) (.agg ys)) _).trans ?_
    rw [he]
    rfl
  rw [this]
  rfl
theorem bin_eql_bool {t : TypeId} {ox oy : Operand} {a b : Bool} (h : P.underlying t = some .bool) : pBin P .eql t ox oy (.bool a) (.bool b) = some (.bool (a == b)) := by
  unfold pBin
  have : prun P (do eqGuard .eql t ox oy (.bool a) (.bool b); binOp .eql t (.bool a) (.bool b)) = some (.bool (a == b)) := by
    rw [prun_bind]
    refine (prun_bind (Op.equalIn 10000 t (.bool a) (.bool b)) _).trans ?_
    rw [prun_equal_bool h]
    rfl
  rw [this]
  rfl
theorem bin_neq_bool {t : TypeId} {ox oy : Operand} {a b : Bool} (h : P.underlying t = some .bool) : pBin P .neq t ox oy (.bool a) (.bool b) = some (.bool (!(a == b))) := by
  unfold pBin
  have : prun P (do eqGuard .neq t ox oy (.bool a) (.bool b); binOp .neq t (.bool a) (.bool b)) = some (.bool (!(a == b))) := by
    rw [prun_bind]
    refine (prun_bind (Op.equalIn 10000 t (.bool a) (.bool b)) _).trans ?_
    rw [prun_equal_bool h]
    rfl
  rw [this]
  rfl
theorem un_neg {k : IntKind} {a : Int} : pUn P .neg (.int k a) = some (.int k (k.wrap (0 - a))) := by cases k <;> rfl
theorem beqB_dec (s t : ByteArray) : (s == t) = decide (s = t) := by
  by_cases h : s = t
  · rw [h, beqB]; simp
  · simp only [h, decide_false]
    cases hc : (s == t) with
    | false => rfl
    | true =>
      obtain ⟨x⟩ := s
      obtain ⟨y⟩ := t
      have : (x == y) = true := hc
      exact absurd (by rw [eq_of_beq this]) h
end Go.Proofs.Ev
