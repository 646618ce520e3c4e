/- Operations at typed values: what a shallow function is run by. -/
import Derived.Test.YtpiibdegmimckaaEv20
set_option linter.unusedVariables false
set_option linter.unusedSimpArgs false
namespace Go.Proofs.Ev
open Go Go.RowKit
variable {P : Program} {k : IntKind} {t : TypeId} {x y : Operand} {a b : Int} {h : AH}
theorem bin_add : pBin P .add t x y (.int k a) (.int k b) = some (.int k (k.wrap (a + b))) := by cases k <;> rfl
theorem bin_sub : pBin P .sub t x y (.int k a) (.int k b) = some (.int k (k.wrap (a - b))) := by cases k <;> rfl
theorem bin_mul : pBin P .mul t x y (.int k a) (.int k b) = some (.int k (k.wrap (a * b))) := by cases k <;> rfl
theorem bin_lss : pBin P .lss t x y (.int k a) (.int k b) = some (.bool (decide (a < b))) := by cases k <;> rfl
theorem bin_leq : pBin P .leq t x y (.int k a) (.int k b) = some (.bool (decide (a ≤ b))) := by cases k <;> rfl
theorem bin_gtr : pBin P .gtr t x y (.int k a) (.int k b) = some (.bool (decide (a > b))) := by cases k <;> rfl
theorem bin_geq : pBin P .geq t x y (.int k a) (.int k b) = some (.bool (decide (a ≥ b))) := by cases k <;> rfl
theorem bin_eql : pBin P .eql t x y (.int k a) (.int k b) = some (.bool (a == b)) := by cases k <;> rfl
theorem bin_neq : pBin P .neq t x y (.int k a) (.int k b) = some (.bool (a != b)) := by cases k <;> rfl
theorem un_not {b : Bool} : pUn P .not (.bool b) = some (.bool (!b)) := by cases b <;> rfl
theorem pick_bool {c : Bool} {u v : Value} : pickV (.bool c) u v = some (bif c then u else v) := by cases c <;> rfl
theorem gd_true {c : Bool} {s : Option (Value × AH)} : gd (some (.bool c)) c h s = s := by cases c <;> rfl
theorem gd_bool {c w : Bool} {s : Option (Value × AH)} : gd (some (.bool c)) w h s = bif c == w then s else some (skipped, h) := by cases c <;> cases w <;> rfl
theorem shl_nn (hb : 0 ≤ b) {k2 : IntKind} : pBin P .shl t x y (.int k a) (.int k2 b) = some (.int k (k.wrap (a * 2 ^ (min b.toNat k.bits)))) := by
  obtain ⟨n, rfl⟩ := Int.eq_ofNat_of_zero_le hb
  cases k <;> rfl
theorem shr_nn (hb : 0 ≤ b) {k2 : IntKind} : pBin P .shr t x y (.int k a) (.int k2 b) = some (.int k (a.fdiv (2 ^ (min b.toNat k.bits)))) := by
  obtain ⟨n, rfl⟩ := Int.eq_ofNat_of_zero_le hb
  cases k <;> rfl
theorem bin_and : pBin P .and t x y (.int k a) (.int k b) = some (.int k (k.wrap (BitVec.ofInt k.bits a &&& BitVec.ofInt k.bits b).toNat)) := by cases k <;> rfl
theorem bin_or : pBin P .or t x y (.int k a) (.int k b) = some (.int k (k.wrap (BitVec.ofInt k.bits a ||| BitVec.ofInt k.bits b).toNat)) := by cases k <;> rfl
theorem bin_xor : pBin P .xor t x y (.int k a) (.int k b) = some (.int k (k.wrap (BitVec.ofInt k.bits a ^^^ BitVec.ofInt k.bits b).toNat)) := by cases k <;> rfl
variable {k2 : IntKind} {s d : TypeId}
theorem plain_int : plain (.int k a) = true := rfl
theorem prun_und' {β : Type} {f : TypeDesc → Sem β} {t : TypeId} {u : TypeDesc} (hu : P.underlying t = some u) : prun P ((underlying t) >>= f) = prun P (f u) := by
  have : prun P ((underlying t) >>= f) = prun P ((match P.underlying t with
    | some d => (pure d : Sem TypeDesc)
    | none => stuck "no such type") >>= f) := rfl
  rw [this, hu]
  rfl
theorem conv_int (hs : P.underlying s = some (.int k)) (hd : P.underlying d = some (.int k2)) : pConv P s d (.int k a) h = some (.int k2 (k2.wrap a)) := by
  unfold pConv
  rw [plain_int, if_pos rfl, hd]
  have : prun P (convert s d (.int k a)) = some (.int k2 (k2.wrap a)) := by
    unfold convert
    rw [prun_und' hs, prun_und' hd]
    cases k2 <;> rfl
  rw [this]
  rfl
/-- The length of a slice, of a string. -/
theorem len_slice {t e : TypeId} (hu : P.underlying t = some (.slice e)) {o : Option Addr} {n c : Nat} : pLen P #[t] (.slice o n c) h = some (goInt n) := by
  unfold pLen
  simp [hu]
theorem len_string {t : TypeId} (hu : P.underlying t = some .string) {z : ByteArray} : pLen P #[t] (.string z) h = some (goInt z.size) := by
  unfold pLen
  simp [hu]
/-- A cell of a slice: its address, and what is read there. -/
theorem indexAddr_slice {t e : TypeId} {sz : Nat} (hu : P.underlying t = some (.slice e)) (hs : szT P e = some sz) {q : Addr} {n c : Nat} {i : Int} (h0 : 0 ≤ i) (hn : i < n) :
    pIndexAddr P t (.slice (some q) n c) (.int k i) = some (.pointer (some ⟨q.block, q.off + i.toNat * sz, none⟩)) := by
  unfold pIndexAddr
  simp only [hu, hs]
  rw [if_pos ⟨h0, hn⟩]
theorem load_one {t : TypeId} {n : Nat} (ha : isAggT P t = some false) (hs : szT P t = some n) {q : Addr} : pLoad P t (.pointer (some q)) h = h.cell q.block q.off := by
  unfold pLoad
  simp only [ha, hs]
theorem load_row {t : TypeId} {n : Nat} (ha : isAggT P t = some true) (hs : szT P t = some n) {q : Addr} : pLoad P t (.pointer (some q)) h = (h.row q.block q.off n).map fun cs => .agg cs.toArray := by
  unfold pLoad
  simp only [ha, hs]
theorem index_string {t : TypeId} (hu : P.underlying t = some .string) {z : ByteArray} {i : Int} (h0 : 0 ≤ i) : pIndex P t (.string z) (.int k i) = (z[i.toNat]?).map fun b => .int .u8 b.toNat := by
  unfold pIndex
  simp only [hu]
  rw [if_pos h0]
end Go.Proofs.Ev
