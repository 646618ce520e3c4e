/- Texts in slices: light ones, own ones, held against each other. -/
import Derived.Test.YtghelamfaaakcaaGreatSzF
import Derived.Test.YtghelamfaaakcaaGreatSzT
import Derived.Test.YtghelamfaaakcaaGreatOrdC
import Derived.Test.YtghelamfaaakcaaGreatEvC
set_option linter.unusedVariables false
set_option linter.unusedSimpArgs false
set_option maxRecDepth 100000
namespace Go.Proofs.YtghelamfaaakcaaGreat.Sh
open Go Go.RowKit Go.Proofs.Ev
def Strs (h : AH) (v : Value) (l : List ByteArray) : Prop := Sl1 Tryz.prog h v Value.string l
def srows (l : List ByteArray) : List (List Value) := l.map fun x => [Value.string x]
theorem srows_len (l : List ByteArray) : (srows l).length = l.length := List.length_map ..
theorem srows_flat (l : List ByteArray) : (srows l).flatten = l.map Value.string := by
  induction l with
  | nil => rfl
  | cons x l ih => simp only [srows, List.map_cons, List.flatten_cons] at ih ⊢; rw [ih]; rfl
theorem srows_wide (l : List ByteArray) : ∀ r ∈ srows l, r.length = 1 := fun r hr => by
  obtain ⟨x, _, rfl⟩ := List.mem_map.1 hr
  rfl
theorem Strs.grow {h h' : AH} {v : Value} {l : List ByteArray} (S : Strs h v l) (g : Grow h h') : Strs h' v l := Sl1.grow S g
theorem Strs.len {h h' : AH} {v : Value} {l : List ByteArray} (S : Strs h v l) : pLen Tryz.prog #[122] v h' = some (.int .i64 l.length) := Sl1.len S u122
theorem Strs.at_ {h : AH} {v : Value} {l : List ByteArray} (S : Strs h v l) {k : IntKind} {i : Nat} {x : ByteArray} (hi : l[i]? = some x) :
    ∃ b o, pIndexAddr Tryz.prog 122 v (.int k i) = some (.pointer (some ⟨b, o, none⟩)) ∧ ∀ h', Grow h h' → h'.cell b o = some (.string x) := Sl1.at_ S hi u122 sz9
theorem Stt.strs {n0 : Nat} {h0 h : AH} {L : List (Nat × AO)} {O : List OS} (S : Stt Tryz.prog n0 h0 h L O) (i : Nat) {v : Value} {l : List ByteArray} (hi : O[i]? = some (v, 1, srows l)) : Strs h v l := S.slV i hi

theorem len_s (s : ByteArray) (h : AH) : pLen Tryz.prog #[9] (.string s) h = some (.int .i64 s.size) := len_string u9
theorem eq_s {x y : Operand} {a b : ByteArray} : pBin Tryz.prog .eql 9 x y (.string a) (.string b) = some (.bool (decide (a = b))) := bin_eql_string
theorem ne_s {x y : Operand} {a b : ByteArray} : pBin Tryz.prog .neq 9 x y (.string a) (.string b) = some (.bool (!decide (a = b))) := bin_neq_string
/-- What all texts' bytes together are. -/
def total (l : List ByteArray) : Nat := (l.map (·.size)).sum
end Go.Proofs.YtghelamfaaakcaaGreat.Sh
