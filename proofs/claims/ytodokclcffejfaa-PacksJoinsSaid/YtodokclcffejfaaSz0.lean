/- The setting of the shallow functions. Printed by a program of the prover's own from the loaded program; Lean checks it. -/
import Derived.Test.YtodokclcffejfaaEv23
import Derived.Test.YtodokclcffejfaaProg
import Derived.KernelRfl
set_option linter.unusedVariables false
set_option linter.unusedSimpArgs false
set_option maxRecDepth 100000
namespace Go.Proofs.Ytodokclcffejfaa.Sh
open Go Go.RowKit Go.Proofs.Ev
def ftab : List (Nat × List (Nat × List Nat)) := [(3, [(0, [6]), (1, [13]), (2, [0, 1, 2, 14]), (3, [14, 15, 16, 17, 18, 19, 20, 21]), (4, [0, 1, 2, 22]), (5, [22, 23, 24]), (6, [25, 26, 27, 28, 29, 30]), (7, [31, 32, 33, 34, 35, 36]), (8, [1, 37, 38, 39, 40, 41, 42, 43, 44, 45]), (9, [8, 10, 46, 47, 48, 49, 50, 51, 52, 53]), (10, [0, 2, 7, 9, 11, 12, 54]), (11, [0, 2, 12, 54, 55, 56, 57, 58, 59, 60, 61, 62, 63]), (12, [7, 9, 11, 64]), (13, [7, 9, 11, 64, 65, 66, 67, 68, 69])]),
  (8, [(0, [0]), (1, [3, 4, 5, 6, 7]), (2, [1, 2, 8, 9, 10, 11, 12, 13, 14])]),
  (9, [(0, [4]), (1, [6]), (2, [0, 1, 7]), (3, [0, 7, 8, 9, 10]), (4, [11]), (5, [1, 12, 13, 14, 15]), (6, [1, 5, 12, 16])]),
  (10, [(0, [4, 5]), (1, [13, 14, 15, 16, 17]), (2, [0, 1, 12]), (3, [12, 19, 20, 21, 22]), (4, [0, 1, 18]), (5, [18, 23, 24, 25, 26, 27]), (8, [28]), (9, [0]), (11, [32, 33, 34]), (14, [37, 38, 39, 40, 41, 42]), (15, [43, 44]), (16, [45]), (17, [11, 35, 36, 37, 46]), (18, [1, 8, 9, 29, 30, 31, 32, 47]), (19, [7, 48, 49, 50, 51, 52]), (20, [6, 7, 48, 53])]),
  (11, [(0, [2]), (1, [0, 3, 4, 5])]),
  (12, [(0, [4]), (1, [6, 7, 8, 9]), (2, [0, 1, 10]), (3, [10]), (4, [11, 12, 13]), (5, [15, 16, 25]), (6, [14, 17, 18, 19, 20, 21, 22, 23, 24]), (7, [0, 1, 5, 25]), (8, [0, 1, 5, 14])]),
  (15, [(0, [2]), (2, [0]), (4, [9, 10, 11]), (5, [5, 12, 13, 14]), (6, [15]), (7, [3, 6, 7, 8, 9, 16, 17])]),
  (16, [(0, [4]), (1, [5, 6, 7]), (2, [0, 1, 8]), (3, [0, 1, 8, 9, 10, 11, 12, 13, 14])]),
  (23, [(0, [4]), (1, [0, 1, 5, 6, 7, 8, 9, 10, 11, 12, 13, 14, 15, 16, 17, 18])]),
  (24, [(0, [0, 5, 6, 7, 8, 9]), (1, [10, 11]), (2, [12]), (3, [3, 13, 14, 15, 16, 17]), (4, [1, 2])]),
  (26, [(1, [3]), (2, [2, 4, 5, 6]), (4, [4, 7]), (5, [8, 9, 10]), (6, [11, 12]), (7, [8, 13]), (8, [14, 15, 16]), (9, [17, 18]), (10, [0, 14, 19, 20, 21, 22, 23, 24])])]
def look {α : Type} (d : α) : List (Nat × α) → Nat → α
  | [], _ => d
  | (i, x) :: l, j => if i = j then x else look d l j
noncomputable def env0 : Env := { P := Try.prog, L := fun f => (look none (ftab.map fun x => (x.1, some ())) f).isSome, FT := fun f r => look [] (look [] ftab f) r, O := fun _ => none, X := fun _ => none }
theorem known_of {l : List (Nat × List (Nat × List Nat))} {f : Nat} (h : (look none (l.map fun x => (x.1, some ())) f).isSome = true) : f ∈ l.map (·.1) := by
  induction l with
  | nil => cases h
  | cons a l ih =>
    rw [List.map_cons, look] at h
    rw [List.map_cons, List.mem_cons]
    split at h
    · rename_i h1; exact .inl h1.symm
    · exact .inr (ih h)
def known : List Nat := ftab.map (·.1)
theorem setting0 : EnvOK env0 :=
  ⟨by kernel_rfl, fun f hf => okFun_spec (List.all_eq_true.1 (show known.all (okFun Try.prog) = true by kernel_rfl) f (known_of hf)), fun f g hg => (by cases hg), fun f g hg => (by cases hg)⟩
theorem toldLives : tellsTrue (eFun env0 300 (eInv env0 300) 8 #[] AH.none) = true := by kernel_rfl
noncomputable def env : Env := lifeE env0 [8]
theorem setting : EnvOK env := lifeE_ok setting0 fun f hf => by
  obtain rfl := List.mem_singleton.1 hf
  exact ⟨⟨_, _, Try.func8, rfl, by decide +kernel⟩, fun w => law0' setting0 toldLives w⟩
theorem lives_call {k : Nat} {h : AH} : eInv env (k + 1) (.func 8) #[] #[] h = some (.bool true, h) := (inv_func (by kernel_rfl)).trans rfl
end Go.Proofs.Ytodokclcffejfaa.Sh
