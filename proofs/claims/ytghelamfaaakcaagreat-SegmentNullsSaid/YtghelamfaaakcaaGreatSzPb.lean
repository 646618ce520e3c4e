/- Packs' contracts in the state of their caller; numbers as words. -/
import Derived.Test.YtghelamfaaakcaaGreatSzPk
set_option linter.unusedVariables false
set_option linter.unusedSimpArgs false
set_option maxRecDepth 100000
namespace Go.Proofs.YtghelamfaaakcaaGreat.Sh
open Go Go.RowKit Go.Proofs.Ev
def u64v (x : Nat) : Value := .int .u64 (x : Int)
def u64rows (l : List Nat) : List (List Value) := l.map fun x => [u64v x]
def Words (h : AH) (v : Value) (l : List Nat) : Prop := Sl1 Tryz.prog h v u64v l
theorem u64rows_len (l : List Nat) : (u64rows l).length = l.length := List.length_map ..
theorem pk_wrow (l : List Nat) : (Pk.ints l).map Pk.wrow = u64rows l := by
  unfold Pk.ints u64rows
  rw [List.map_map]; rfl
theorem pk_brow (l : List Nat) : (Pk.ints l).map Pk.brow = u8rows l := by
  unfold Pk.ints u8rows
  rw [List.map_map]; rfl
theorem Words.pk {h : AH} {v : Value} {l : List Nat} (W : Words h v l) : Pk.Words h v (Pk.ints l) := by
  unfold Pk.Words
  rw [pk_wrow]; exact W
theorem Bytes.pk {h : AH} {v : Value} {l : List Nat} (B : Bytes h v l) : Pk.Bytes h v (Pk.ints l) := by
  unfold Pk.Bytes
  rw [pk_brow]; exact B
theorem f49c {k : Nat} {h : AH} {v : Value} {l : List Nat} (A : Words h v l) (hl : l.length ≤ 65536) (hlk : l.length < k + 299) (hx : ∀ x ∈ l, x < 18446744073709551616) (n : Int) :
    Tl (eInv env (k + 301) (.func 49) #[] #[v, .int .i64 n] h) fun r => ∃ o, r.1 = .tuple #[o, .int .i64 (Pk.putE l n)] ∧ Grow h r.2 ∧ OwnB Tryz.prog h.n r.2 o 1 (u8rows (Pk.putL l n)) := by
  have := Pk.f10g (k := k) A.pk hl hlk hx n
  rw [pk_brow] at this
  exact this
end Go.Proofs.YtghelamfaaakcaaGreat.Sh
