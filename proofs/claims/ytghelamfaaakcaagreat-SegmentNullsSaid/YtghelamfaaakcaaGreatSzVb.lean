/- Cells, rows and predicates as they lie in memory; which of them are light. -/
import Derived.Test.YtghelamfaaakcaaGreatSzVa
set_option linter.unusedVariables false
set_option linter.unusedSimpArgs false
set_option maxRecDepth 100000
namespace Go.Proofs.YtghelamfaaakcaaGreat.Sh
open Go Go.RowKit Go.Proofs.Ev

/-- A node of a predicate. -/
structure NodeD where
  op : Int
  col : Int
  val : CellD
  parts : List Int
def crow (a : CellD) : List Value := [.int .i64 a.k, .int .i64 a.i, .string a.s]
def irows (l : List Int) : List (List Value) := l.map fun x => [.int .i64 x]
def nrow (nd : NodeD) (pv : Value) : List Value := [.int .i64 nd.op, .int .i64 nd.col, .int .i64 nd.val.k, .int .i64 nd.val.i, .string nd.val.s, pv]
/-- A row of cells. -/
def Cells (h : AH) (v : Value) (l : List CellD) : Prop := SlZ Tryz.prog h v 3 (l.map crow)
def IntsZ (h : AH) (v : Value) (l : List Int) : Prop := SlZ Tryz.prog h v 1 (irows l)
def NodeR (h : AH) (r : List Value) (nd : NodeD) : Prop := ∃ pv, r = nrow nd pv ∧ IntsZ h pv nd.parts
def All2 {α γ : Type} (R : α → γ → Prop) : List α → List γ → Prop
  | [], [] => True
  | a :: l, b :: m => R a b ∧ All2 R l m
  | _, _ => False
theorem All2.len {α γ : Type} {R : α → γ → Prop} : ∀ {l : List α} {m : List γ}, All2 R l m → l.length = m.length
  | [], [], _ => rfl
  | a :: l, b :: m, h => by simp [All2.len h.2]
theorem All2.get {α γ : Type} {R : α → γ → Prop} : ∀ {l : List α} {m : List γ}, All2 R l m → ∀ {i : Nat} {b : γ}, m[i]? = some b → ∃ a, l[i]? = some a ∧ R a b
  | [], [], _, i, b, hb => by simp at hb
  | a :: l, b :: m, h, 0, c, hc => by simp at hc; subst hc; exact ⟨a, rfl, h.1⟩
  | a :: l, b :: m, h, i + 1, c, hc => All2.get h.2 (i := i) (by simpa using hc)
theorem All2.mono {α γ : Type} {R R' : α → γ → Prop} (hR : ∀ a b, R a b → R' a b) : ∀ {l : List α} {m : List γ}, All2 R l m → All2 R' l m
  | [], [], _ => trivial
  | a :: l, b :: m, h => ⟨hR _ _ h.1, All2.mono hR h.2⟩
/-- A predicate. -/
def Preds (h : AH) (v : Value) (l : List NodeD) : Prop := ∃ rows, SlZ Tryz.prog h v 6 rows ∧ All2 (NodeR h) rows l
theorem NodeR.grow {h h' : AH} {r : List Value} {nd : NodeD} (S : NodeR h r nd) (g : Grow h h') : NodeR h' r nd := by
  obtain ⟨pv, e, X⟩ := S
  exact ⟨pv, e, SlZ.grow X g⟩
theorem Preds.grow {h h' : AH} {v : Value} {l : List NodeD} (S : Preds h v l) (g : Grow h h') : Preds h' v l := by
  obtain ⟨rows, X, A⟩ := S
  exact ⟨rows, X.grow g, A.mono fun _ _ h => h.grow g⟩
theorem irows_len (l : List Int) : (irows l).length = l.length := List.length_map ..
theorem IntsZ.grow {h h' : AH} {v : Value} {l : List Int} (S : IntsZ h v l) (g : Grow h h') : IntsZ h' v l := SlZ.grow S g
theorem IntsZ.len {h h' : AH} {v : Value} {l : List Int} (S : IntsZ h v l) : pLen Tryz.prog #[72] v h' = some (.int .i64 l.length) := by
  have := SlZ.len S u72 (h' := h')
  rwa [irows_len] at this
theorem IntsZ.at_ {h : AH} {v : Value} {l : List Int} (S : IntsZ h v l) {i : Nat} {x : Int} (hi : l[i]? = some x) :
    ∃ b o, pIndexAddr Tryz.prog 72 v (.int .i64 i) = some (.pointer (some ⟨b, o, none⟩)) ∧ h.cell b o = some (.int .i64 x) := by
  obtain ⟨b, o, h1, h2⟩ := SlZ.at_ S (k := .i64) (i := i) (r := [.int .i64 x]) (by simp [irows, hi]) u72 sz3
  exact ⟨b, o, h1, by simpa using Ev.cell_of_row (j := 0) h2 (by omega)⟩
theorem Cells.grow {h h' : AH} {v : Value} {l : List CellD} (S : Cells h v l) (g : Grow h h') : Cells h' v l := SlZ.grow S g
theorem Cells.len {h h' : AH} {v : Value} {l : List CellD} (S : Cells h v l) : pLen Tryz.prog #[22] v h' = some (.int .i64 l.length) := by
  have := SlZ.len S u22 (h' := h')
  rwa [List.length_map] at this
theorem Cells.at_ {h : AH} {v : Value} {l : List CellD} (S : Cells h v l) {i : Nat} {x : CellD} (hi : l[i]? = some x) :
    ∃ b o, pIndexAddr Tryz.prog 22 v (.int .i64 i) = some (.pointer (some ⟨b, o, none⟩)) ∧ h.row b o 3 = some (crow x) :=
  SlZ.at_ S (k := .i64) (by simp [hi]) u22 sz31
theorem drop_at {α : Type} {l : List α} {i : Nat} {x : α} (h : l[i]? = some x) : l.drop i = x :: l.drop (i + 1) := by
  obtain ⟨hi, rfl⟩ := List.getElem?_eq_some_iff.1 h
  exact List.drop_eq_getElem_cons hi
/-! ### Light ones -/
end Go.Proofs.YtghelamfaaakcaaGreat.Sh
