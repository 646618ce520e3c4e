/- 'ZoneOrder' comes to true: the walk. -/
import Derived.Test.YtpiibdegmimckaaSzC2
import Derived.Test.YtpiibdegmimckaaZoneMath
set_option linter.unusedVariables false
set_option linter.unusedSimpArgs false
namespace Go.Proofs.Ytpiibdegmimckaa.Sh
open Go Go.RowKit Go.Proofs.Ev Go.Lib

theorem st26 : Try.prog.underlying 26 = some (.struct (Try.prog.fieldsOf 26)) := by kernel_rfl
theorem eg26 : Try.prog.eqGuardType Try.prog.depth 26 = false := by kernel_rfl
theorem sh26 : Try.prog.stoodInHeld 26 = false := by kernel_rfl
theorem fs26 : (Try.prog.fieldsOf 26).toList = [{ name := "Kind", type := 3, offset := 0, embedded := false, tag := "", pkgPath := "", byteOffset := 0 }, { name := "Int", type := 2, offset := 1, embedded := false, tag := "", pkgPath := "", byteOffset := 8 }, { name := "Text", type := 9, offset := 2, embedded := false, tag := "", pkgPath := "", byteOffset := 16 }] := by kernel_rfl
theorem pt26_0 (k i : Int) (s : ByteArray) : prun Try.prog (part 3 #[.int .i64 k, .int .i64 i, .string s] 0) = some (.int .i64 k) := by kernel_rfl
theorem pt26_1 (k i : Int) (s : ByteArray) : prun Try.prog (part 2 #[.int .i64 k, .int .i64 i, .string s] 1) = some (.int .i64 i) := by kernel_rfl
theorem pt26_2 (k i : Int) (s : ByteArray) : prun Try.prog (part 9 #[.int .i64 k, .int .i64 i, .string s] 2) = some (.string s) := by kernel_rfl
theorem eq26 (d : Nat) (a b : CellD) : prun Try.prog (Op.equalIn (d + 2) 26 a.v b.v) = some (decide (a = b)) := by
  unfold CellD.v
  rw [prun_equal_struct st26 sh26, fs26]
  simp only [prunFields, ne_eq, String.reduceEq, not_false_eq_true, if_true, pt26_0, pt26_1, pt26_2, Option.bind_some, prun_equal_int u3, prun_equal_int u2, prun_equal_string u9]
  have key : (a = b) ↔ a.k = b.k ∧ a.i = b.i ∧ a.s = b.s := by
    constructor
    · rintro rfl; exact ⟨rfl, rfl, rfl⟩
    · rintro ⟨h1, h2, h3⟩; exact CellD.ext' h1 h2 (by unfold CellD.bytes; rw [h3])
  rw [beqB_dec]
  by_cases h1 : a.k = b.k
  · by_cases h2 : a.i = b.i
    · by_cases h3 : a.s = b.s
      · simp [key, h1, h2, h3]
      · simp [key, h1, h2, h3]
    · have : (a.i == b.i) = false := by simpa using h2
      simp [key, h1, h2, this]
  · have : (a.k == b.k) = false := by simpa using h1
    simp [key, h1, this]
theorem eql26 (a b : CellD) {x y : Operand} : pBin Try.prog .eql 26 x y a.v b.v = some (.bool (decide (a = b))) := bin_eql_agg rfl rfl eg26 (eq26 9998 a b)
theorem neq26 (a b : CellD) {x y : Operand} : pBin Try.prog .neq 26 x y a.v b.v = some (.bool (!decide (a = b))) := bin_neq_agg rfl rfl eg26 (eq26 9998 a b)

def cntR (a b : CellD) : Nat → Int
  | 0 => 0
  | r + 1 => (if isB (6 - r) a b then 1 else 0) + cntR a b r
def cb (b : Nat) (a : CellD) : Nat × AO := (b, .cells a.v.cells.toList 26 true)
def pt (b : Nat) : Value := .pointer (some ⟨b, 0, none⟩)
theorem row_at {n0 : Nat} {h0 h : AH} {L : List (Nat × AO)} {b : Nat} {a : CellD} (S : Sta n0 h0 h L) {i : Nat} (hi : L[i]? = some (cb b a)) : h.row b 0 3 = some [.int .i64 a.k, .int .i64 a.i, .string a.s] := by
  have := S.mem.at_ hi
  exact (row_of this).trans rfl
theorem kind_at {n0 : Nat} {h0 h : AH} {L : List (Nat × AO)} {b : Nat} {a : CellD} (S : Sta n0 h0 h L) {i : Nat} (hi : L[i]? = some (cb b a)) : h.cell b 0 = some (.int .i64 a.k) := by
  have := S.mem.at_ hi
  exact (cell_of this).trans rfl
theorem aggV (a : CellD) : Value.agg [Value.int .i64 a.k, .int .i64 a.i, .string a.s].toArray = a.v := rfl
theorem loop5 {β : Type} {k : Nat} {a b c : CellD} {h0 : AH} {b1 b2 b3 : Nat} {Q : β → Prop} {ke0 : Value → Value → Value → Value → Value → Value → Value → Value → AH → Option β} {x7 x8 x9 : Value} (r : Nat) :
    ∀ {j : Nat} {n : Int} {h : AH}, r ≤ 6 → r < j → 0 ≤ n → n + r ≤ 100 → Sta h0.n h0 h [cb b3 c, cb b2 b, cb b1 a] →
      (∀ h', Sta h0.n h0 h' [cb b3 c, cb b2 b, cb b1 a] → Tl (ke0 (pt b1) (pt b2) x7 x8 x9 (.int .i64 (n + cntR a b r)) (.int .i64 7) (.bool false) h') Q) →
      Tl (F5_lrlrrrr (eInv env (k + 20)) (k + 20) j (pt b1) (pt b2) x7 x8 x9 (.int .i64 n) (.int .i64 (7 - r)) h ke0) Q := by
  induction r with
  | zero =>
    intro j n h _ hj _ _ S hq
    obtain ⟨j, rfl⟩ : ∃ i, j = i + 1 := ⟨j - 1, by omega⟩
    simp only [F5_lrlrrrr, bin_leq, bnd_some]
    have e : decide ((7 : Int) - ((0 : Nat) : Int) ≤ 6) = false := by decide
    rw [e]
    simp only [brV_false]
    have := hq h S
    simpa [cntR] using this
  | succ r ih =>
    intro j n h hr hj hn hb S hq
    obtain ⟨j, rfl⟩ : ∃ i, j = i + 1 := ⟨j - 1, by omega⟩
    have ra := row_at (i := 2) S rfl
    have rb := row_at (i := 1) S rfl
    simp only [F5_lrlrrrr, bin_leq, bnd_some]
    have e : decide ((7 : Int) - ((r + 1 : Nat) : Int) ≤ 6) = true := by simp; omega
    rw [e]
    simp only [brV_true]
    unfold F5_lrllrlrrrr pt
    simp only [ld26, ra, rb, Option.map_some, bnd_some, aggV, F16_call]
    refine Tl.call S (f16 (k := k + 7) _ a b h) fun h3 S3 _ => ?_
    have e1 : (7 : Int) - ((r + 1 : Nat) : Int) = 6 - r := by omega
    have w1 : IntKind.i64.wrap (n + 1) = n + 1 := wrap_i64 (by omega) (by omega)
    have w2 : IntKind.i64.wrap (6 - (r : Int) + 1) = 7 - r := by rw [wrap_i64 (by omega) (by omega)]; omega
    rw [e1]
    by_cases hi : isB (6 - (r : Int)) a b = true
    · rw [hi]
      simp only [brV_true, bin_add, bnd_some, w1, w2]
      refine ih (by omega) (by omega) (by omega) (by omega) S3 fun h' S' => ?_
      have := hq h' S'
      simp only [cntR, hi, if_true] at this
      rw [show n + 1 + cntR a b r = n + (1 + cntR a b r) by omega]
      exact this
    · have hi' : isB (6 - (r : Int)) a b = false := by simpa using hi
      rw [hi']
      simp only [brV_false, bin_add, bnd_some, w2]
      refine ih (by omega) (by omega) (by omega) (by omega) S3 fun h' S' => ?_
      have := hq h' S'
      simp only [cntR, hi', Bool.false_eq_true, if_false, Int.zero_add] at this
      exact this
end Go.Proofs.Ytpiibdegmimckaa.Sh
