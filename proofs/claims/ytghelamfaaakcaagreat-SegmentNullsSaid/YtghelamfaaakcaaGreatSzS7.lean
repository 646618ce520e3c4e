/- 'SegmentNulls': what is put, without the program; texts cut. -/
import Derived.Test.YtghelamfaaakcaaGreatSzS6
import Derived.Test.YtghelamfaaakcaaGreatSzNf
import Derived.Test.YtghelamfaaakcaaGreatSzKp
set_option linter.unusedVariables false
set_option linter.unusedSimpArgs false
set_option maxRecDepth 100000
namespace Go.Proofs.YtghelamfaaakcaaGreat.Sh
open Go Go.RowKit Go.Proofs.Ev Go.Lib

/-! ### Texts cut -/
theorem strB_size (l : List Nat) : (strB l).size = l.length := by
  show (l.map UInt8.ofNat).toArray.size = l.length
  simp
theorem strB_cut (l : List Nat) (a b : Nat) : (strB l).extract a b = strB ((l.take b).drop a) := by
  apply ByteArray.ext
  unfold strB
  rw [ByteArray.data_extract]
  apply Array.ext'
  simp [List.map_drop, List.map_take, List.drop_take]
theorem cut_lo {l : List Nat} {a : Nat} (ha : a ≤ l.length) (h : AH) : pSlice Tryz.prog 9 (.string (strB l)) (some (.int .i64 (a : Int))) none none h = some (.string (strB (l.drop a))) := by
  unfold pSlice
  have h1 : intOr 0 (some (.int .i64 (a : Int))) = some (a : Int) := rfl
  have h2 : intOr ((strB l).size : Int) none = some ((strB l).size : Int) := rfl
  simp only [u9, h1, h2]
  rw [strB_size, if_pos ⟨by omega, by omega, by omega⟩, strB_cut]
  simp
theorem cut_mid {l : List Nat} {a b : Nat} (ha : a ≤ b) (hb : b ≤ l.length) (h : AH) : pSlice Tryz.prog 9 (.string (strB l)) (some (.int .i64 (a : Int))) (some (.int .i64 (b : Int))) none h = some (.string (strB ((l.take b).drop a))) := by
  unfold pSlice
  have h1 : intOr 0 (some (.int .i64 (a : Int))) = some (a : Int) := rfl
  have h2 : intOr ((strB l).size : Int) (some (.int .i64 (b : Int))) = some (b : Int) := rfl
  simp only [u9, h1, h2]
  rw [strB_size, if_pos ⟨by omega, by omega, by omega⟩, strB_cut]
  simp
/-! ### Columns of nulls -/
theorem cellE_c0 : cellE c0 = 0 := by decide
theorem flg_nulls (n : Nat) : flg (List.replicate n c0) = List.replicate n true := by simp [flg, c0]
theorem vals_nulls (n : Nat) : vals (List.replicate n c0) = [] := by simp [vals, c0]
theorem pvarN_le2 {n : Nat} (h : n < 16384) : (pvarN n).length ≤ 2 := by
  by_cases q : n < 128
  · rw [pvarN_lt q]; simp
  · rw [pvarN_ge q, pvarN_lt (by omega)]; simp
theorem putV_nulls {n : Nat} (h1 : 1 ≤ n) (h2 : n ≤ 200) : (putV (List.replicate n true)).length ≤ 3 := by
  have hc : cnt (List.replicate n true) = n := by simp [cnt]
  have hf : formN (List.replicate n true) = 1 := by unfold formN; rw [hc, List.length_replicate, if_neg (by omega), if_pos rfl]
  have hp := pvarN_le2 (n := n) (by omega)
  unfold putV
  rw [hf, List.length_replicate]
  simp
  omega
theorem segE_nulls {kind : Int} (hk : 1 ≤ kind ∧ kind ≤ 3) {n : Nat} (h : n ≤ 200) : segE kind (List.replicate n c0) = 0 := by
  rw [segE_zero]
  refine ⟨hk, by simp; omega, fun c hc => ?_⟩
  rw [(List.mem_replicate.1 hc).2]
  exact ⟨cellE_c0, .inr rfl⟩
theorem segB_nulls {kind : Int} {n : Nat} (h1 : 1 ≤ n) (h2 : n ≤ 200) : (segB kind (List.replicate n c0)).length ≤ 4 := by
  have := putV_nulls h1 h2
  unfold segB
  rw [flg_nulls, vals_nulls]
  simp [tailB]
  omega
/-! ### Nulls between cells -/
def more (V : List CellD) : List CellD := V.flatMap fun c => [c, c0]
def wd (n : Nat) : List Bool := (List.replicate n [false, true]).flatten
theorem more_len (V : List CellD) : (more V).length = 2 * V.length := by
  unfold more
  induction V with
  | nil => rfl
  | cons c V ih => rw [List.flatMap_cons, List.length_append, ih, List.length_cons]; simp; omega
theorem wd_len (n : Nat) : (wd n).length = 2 * n := by
  unfold wd
  rw [List.length_flatten]
  simp
  omega
theorem wd_succ (n : Nat) : wd (n + 1) = wd n ++ [false, true] := by
  unfold wd
  rw [List.replicate_succ', List.flatten_append]
  simp
theorem flg_more {V : List CellD} (h : ∀ c ∈ V, c.k ≠ 0) : flg (more V) = wd V.length := by
  induction V with
  | nil => rfl
  | cons c V ih =>
    have hc := h c (List.mem_cons_self ..)
    have i := ih fun x hx => h x (List.mem_cons_of_mem _ hx)
    unfold more flg wd at i ⊢
    rw [List.flatMap_cons, List.map_append, i, List.length_cons, List.replicate_succ, List.flatten_cons]
    simp [hc, c0]
theorem vals_more {V : List CellD} (h : ∀ c ∈ V, c.k ≠ 0) : vals (more V) = V := by
  induction V with
  | nil => rfl
  | cons c V ih =>
    have hc := h c (List.mem_cons_self ..)
    have i := ih fun x hx => h x (List.mem_cons_of_mem _ hx)
    unfold more vals at i ⊢
    rw [List.flatMap_cons, List.filter_append, i]
    simp [hc, c0]
theorem vals_self {V : List CellD} (h : ∀ c ∈ V, c.k ≠ 0) : vals V = V := by
  unfold vals
  rw [List.filter_eq_self]
  intro c hc
  simpa using h c hc
theorem flg_self {V : List CellD} (h : ∀ c ∈ V, c.k ≠ 0) : flg V = List.replicate V.length false := by
  rw [List.eq_replicate_iff]
  refine ⟨List.length_map .., fun b hb => ?_⟩
  obtain ⟨c, hc, rfl⟩ := List.mem_map.1 hb
  simpa using h c hc
theorem vals_ne {l : List CellD} : ∀ c ∈ vals l, c.k ≠ 0 := fun c hc => by
  have : c ∈ l ∧ c.k ≠ 0 := by simpa [vals] using hc
  exact this.2
theorem segE_vals {kind : Int} {l : List CellD} (h : segE kind l = 0) (hl : l.length ≤ 60) : segE kind (vals l) = 0 ∧ segE kind (more (vals l)) = 0 := by
  obtain ⟨h1, h2, h3⟩ := segE_zero.1 h
  have hg := good_vals h3
  have hv := vals_le l
  refine ⟨segE_zero.2 ⟨h1, by omega, fun c hc => ⟨(hg c hc).2, .inl (hg c hc).1⟩⟩, segE_zero.2 ⟨h1, by rw [more_len]; omega, fun c hc => ?_⟩⟩
  obtain ⟨x, hx, hx2⟩ := List.mem_flatMap.1 hc
  simp only [List.mem_cons, List.not_mem_nil, or_false] at hx2
  rcases hx2 with rfl | rfl
  · exact ⟨(hg _ hx).2, .inl (hg _ hx).1⟩
  · exact ⟨cellE_c0, .inr rfl⟩
theorem segB_vals (kind : Int) (l : List CellD) : segB kind (vals l) = [kind.toNat] ++ putV (List.replicate (vals l).length false) ++ tailB kind (vals l) := by
  unfold segB
  rw [flg_self vals_ne, vals_self vals_ne]
theorem segB_more (kind : Int) (l : List CellD) : segB kind (more (vals l)) = [kind.toNat] ++ putV (wd (vals l).length) ++ tailB kind (vals l) := by
  unfold segB
  rw [flg_more vals_ne, vals_more vals_ne]
theorem cut_tail {a : Nat} {p t : List Nat} : ([a] ++ p ++ t).drop (1 + p.length) = t := by
  rw [show 1 + p.length = ([a] ++ p).length by simp; omega, List.drop_left]
theorem cut_head {a : Nat} {p t : List Nat} : (([a] ++ p ++ t).take (1 + p.length)).drop 1 = p := by
  rw [show 1 + p.length = ([a] ++ p).length by simp; omega, List.take_left]
  simp
end Go.Proofs.YtghelamfaaakcaaGreat.Sh
