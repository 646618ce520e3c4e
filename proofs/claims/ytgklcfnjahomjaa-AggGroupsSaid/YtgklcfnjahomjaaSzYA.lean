/- Aggregates as the laws make them. -/
import Derived.Test.YtgklcfnjahomjaaSzY10
set_option linter.unusedVariables false
set_option linter.unusedSimpArgs false
set_option maxRecDepth 100000
namespace Go.Proofs.Ytgklcfnjahomjaa.Sh
open Go Go.RowKit Go.Proofs.Ev
def lawA (c : Nat) (b : Bool) : List AggD := [⟨1, 0⟩, ⟨3, c⟩, ⟨4, c⟩] ++ if b then [⟨2, c⟩] else []
theorem bdA1 : pBuild Try.prog 28 #[(0, .int .i64 1)] = some (.agg #[.int .i64 1, .int .i64 0]) := by kernel_rfl
theorem bdA2 (a c : Int) : pBuild Try.prog 28 #[(0, .int .i64 a), (1, .int .i64 c)] = some (.agg #[.int .i64 a, .int .i64 c]) := by kernel_rfl
theorem bsA3 (c : Int) (h : AH) : pBuildSlice Try.prog 29 3 #[(0, .agg #[.int .i64 1, .int .i64 0]), (1, .agg #[.int .i64 3, .int .i64 c]), (2, .agg #[.int .i64 4, .int .i64 c])] h = some (.slice (some ⟨h.n, 0, none⟩) 3 3, h.alloc (.cells [.int .i64 1, .int .i64 0, .int .i64 3, .int .i64 c, .int .i64 4, .int .i64 c] 28 true)) := by kernel_rfl
/-- Aggregates made, as the laws make them. -/
theorem aggs3S {n0 : Nat} {h0 h : AH} {L : List (Nat × AO)} {O : List OS} (S : Stt Try.prog n0 h0 h L O) (c : Nat) :
    Stt Try.prog n0 h0 (h.alloc (.cells [.int .i64 1, .int .i64 0, .int .i64 3, .int .i64 c, .int .i64 4, .int .i64 c] 28 true)) L ((.slice (some ⟨h.n, 0, none⟩) 3 3, 2, (lawA c false).map arow) :: O) := by
  have S1 := S.alloc (.cells ((lawA c false).map arow).flatten 28 true)
  exact S1.absorb (rows := (lawA c false).map arow) (n := 2) (fun r hr => by obtain ⟨x, _, rfl⟩ := List.mem_map.1 hr; rfl) sz28
theorem nilRows (h : AH) : pLen Try.prog #[23] (.slice none 0 0) h = some (.int .i64 0) := by kernel_rfl
theorem lawA_row {cols : List ColD} {by_ : List Int} {c : Nat} {b : Bool} {rows : List (List CellD)} (h : ofOk cols by_ (lawA c b) rows = true) : ∀ a ∈ lawA c b, ∀ r ∈ rows, rowA a r := by
  unfold ofOk at h
  simp only [Bool.and_eq_true, List.all_eq_true] at h
  obtain ⟨ok, hr⟩ := h
  obtain ⟨_, _, _, hmay⟩ := aggsOk_may ok
  intro a ha r hrow hk
  have hm := hmay a ha
  unfold mayA thereA kindAt at hm
  rw [if_neg (by omega), if_pos hk] at hm
  simp only [Bool.and_eq_true, decide_eq_true_eq] at hm
  obtain ⟨⟨h1, h2⟩, h3⟩ := hm
  have hro := hr r hrow
  have hl := rowOk_len hro
  obtain ⟨cc, ec⟩ : ∃ x, cols[a.c.toNat]? = some x := ⟨_, List.getElem?_eq_getElem (by omega)⟩
  obtain ⟨v, ev⟩ : ∃ x, r[a.c.toNat]? = some x := ⟨_, List.getElem?_eq_getElem (by omega)⟩
  rw [ec] at h3
  have h3 : cc.kind = 1 := h3
  have hf := rowOk_at hro ec ev
  unfold fitC at hf
  simp only [Bool.and_eq_true, Bool.or_eq_true, decide_eq_true_eq] at hf
  rw [atC_in (x := v) (by omega) (by rw [Int.toNat_natCast]; exact ev)]
  rcases hf.2 with h | h
  · exact .inr (by rw [h, h3])
  · exact .inl h.1
end Go.Proofs.Ytgklcfnjahomjaa.Sh
