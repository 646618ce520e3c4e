/- The operations that make no memory, the rest of them; all together. -/
import Derived.Test.YtpiibdegmimckaaEv5
set_option linter.unusedVariables false
set_option linter.unusedSimpArgs false
namespace Go.Proofs.Ev
open Go Go.RowKit
variable {G : Code → Prop} {P : Program} {w0 : World} {ρ : Ren} {D : List Mk} {h : AH} {w : World}

inductive OR (ρ : Ren) : Option Value → Option Value → Prop
  | none : OR ρ none none
  | some {v v' : Value} : VR ρ v v' → OR ρ (some v) (some v')
theorem intOr_OR {d d' : Int} {o o' : Option Value} (hr : OR ρ o o') {n : Int} (hi : intOr d o = some n) : (o = none ∧ o' = none ∧ n = d) ∨ ∃ k, o = some (.int k n) ∧ o' = some (.int k n) := by
  cases hr with
  | none => simp [intOr] at hi; exact .inl ⟨rfl, rfl, hi.symm⟩
  | some hv =>
    unfold intOr at hi
    split at hi
    · rename_i he; cases he
    · rename_i k m he; cases he; cases hi; cases hv; exact .inr ⟨k, rfl, rfl⟩
    · cases hi
theorem sliceBound_run {k : IntKind} {n : Int} {y : Nat} (c : BoundsCode) (h0 : 0 ≤ n) (h1 : n ≤ y) (w : World) : (Instr.sliceBound (.int k n) y c).run P w = .ok n.toNat w := by
  simp [Instr.sliceBound, asIntOf, h0, h1]
theorem sliceBounds_run {isS : Bool} {n c c' : Nat} {lo hi mx lo' hi' mx' : Option Value} {l u m : Int} (r1 : OR ρ lo lo') (r2 : OR ρ hi hi') (r3 : OR ρ mx mx')
    (hl : intOr 0 lo = some l) (hu : intOr n hi = some u) (hm : intOr c mx = some m) (h0 : 0 ≤ l) (h1 : l ≤ u) (h2 : u ≤ m) (h3 : m ≤ c) (h4 : c ≤ c') (h5 : mx.isNone ∨ hi.isSome) (w : World) :
    (Instr.sliceBounds isS n c' lo' hi' mx').run P w = .ok (l.toNat, u.toNat, if mx.isSome then m.toNat else c') w := by
  have b1 := intOr_OR (d' := 0) r1 hl
  have b2 := intOr_OR (d' := 0) r2 hu
  have b3 := intOr_OR (d' := 0) r3 hm
  rcases b1 with ⟨rfl, rfl, rfl⟩ | ⟨k1, rfl, rfl⟩ <;> rcases b2 with ⟨rfl, rfl, rfl⟩ | ⟨k2, rfl, rfl⟩ <;> rcases b3 with ⟨rfl, rfl, rfl⟩ | ⟨k3, rfl, rfl⟩ <;>
    (try (simp at h5; done)) <;>
    simp only [Instr.sliceBounds, Sem.run_bind, Sem.run_pure, Result.andThen_ok, Option.isSome_none, Option.isSome_some, Bool.false_eq_true, if_false, if_true] <;>
    (repeat (rw [sliceBound_run _ (by omega) (by omega)]; simp only [Result.andThen_ok, Sem.run_pure])) <;> simp [Int.toNat_natCast]
theorem slice_sim (S : Sim G P w0 ρ D h w) {t : TypeId} {x x' v : Value} {lo hi mx lo' hi' mx' : Option Value} (hx : VR ρ x x') (r1 : OR ρ lo lo') (r2 : OR ρ hi hi') (r3 : OR ρ mx mx')
    (hv : pSlice P t x lo hi mx h = some v) : ∃ v', (Instr.sliceAt t x' lo' hi' mx').run P w = .ok v' w ∧ VR ρ v v' := by
  unfold pSlice at hv
  split at hv
  · rename_i s
    cases hx
    split at hv
    · rename_i l u ht hl hu
      split at hv
      · rename_i hc
        cases hv
        cases r3
        have := sliceBounds_run (P := P) (ρ := ρ) (isS := false) (n := s.size) (c := s.size) (c' := s.size) (mx := none) (m := s.size) r1 r2 .none hl hu rfl hc.1 hc.2.1 hc.2.2 (Int.le_refl _) (Nat.le_refl _) (.inl rfl) w
        exact ⟨_, by simp [Instr.sliceAt, Instr.slice, run_und ht, this], .string _⟩
      · cases hv
    · cases hv
  · rename_i a n c
    split at hv
    · rename_i size l u m hs hl hu hm
      split at hv
      · rename_i hc
        obtain ⟨c0, c1, c2, c3, c4, c5⟩ := hc
        cases hv
        cases he : elemT P t with
        | none => rw [he] at hs; cases hs
        | some e =>
          rw [he] at hs
          simp only [Option.bind_some] at hs
          have ht : P.underlying t = some (.slice e) := by
            unfold elemT at he
            split at he
            · cases he; assumption
            · cases he
          have hm0 : mx.isSome = false → m = c := by
            intro h0
            cases mx with
            | none => simp [intOr] at hm; exact hm.symm
            | some => cases h0
          cases hx with
          | nilSlice =>
            have := sliceBounds_run (P := P) (ρ := ρ) (isS := true) (c' := c) r1 r2 r3 hl hu hm c0 c1 c2 c3 (Nat.le_refl _) c4 w
            refine ⟨_, by simp [Instr.sliceAt, Instr.slice, run_und ht, this, run_sz hs]; rfl, ?_⟩
            have e1 : (u - l).toNat = u.toNat - l.toNat := by omega
            have e2 : (m - l).toNat = (if mx.isSome = true then m.toNat else c) - l.toNat := by
              split
              · omega
              · rename_i h0; have := hm0 (by simpa using h0); omega
            rw [e1, e2]
            simp only [Option.map_none, ite_self]
            exact .nilSlice _ _
          | slice0 a a' =>
            have := sliceBounds_run (P := P) (ρ := ρ) (isS := true) (c' := 0) r1 r2 r3 hl hu hm c0 c1 c2 c3 (Nat.le_refl _) c4 w
            refine ⟨_, by simp [Instr.sliceAt, Instr.slice, run_und ht, this, run_sz hs]; rfl, ?_⟩
            obtain rfl : l = 0 := by omega
            obtain rfl : u = 0 := by omega
            obtain rfl : m = 0 := by omega
            simp
            exact .slice0 _ _
          | slice a a' _ _ c' r hr h1 h2 =>
            have hcc : c ≤ c' := by rcases h2 with rfl | h2 <;> omega
            have hrun := sliceBounds_run (P := P) (ρ := ρ) (isS := true) (c' := c') r1 r2 r3 hl hu hm c0 c1 c2 c3 hcc c4 w
            refine ⟨_, by simp [Instr.sliceAt, Instr.slice, run_und ht, hrun, run_sz hs]; rfl, ?_⟩
            generalize hM : (if mx.isSome = true then m.toNat else c') = M
            have e1 : (u - l).toNat = u.toNat - l.toNat := by omega
            by_cases hMl : M = l.toNat
            · rw [if_pos hMl]
              have z1 : (u - l).toNat = 0 := by
                split at hM
                · omega
                · rename_i h0; have := hm0 (by simpa using h0); omega
              have z2 : (m - l).toNat = 0 := by
                split at hM
                · omega
                · rename_i h0; have := hm0 (by simpa using h0); omega
              rw [← e1, z1, z2, hMl]
              simp only [Option.map_some, Nat.sub_self]
              exact .slice0 _ _
            · rw [if_neg hMl, ← e1]
              obtain ⟨hsp, r2', hρ2, rfl⟩ := hr
              rw [h1] at hρ2
              cases hρ2
              simp only [Option.map_some, add_at]
              refine .slice _ _ _ _ _ r ⟨rfl, r, h1, by simp [Nat.add_assoc]⟩ h1 ?_
              split at hM
              · left; omega
              · rename_i h0
                have hmc := hm0 (by simpa using h0)
                rcases h2 with rfl | ⟨k1, k0, k2, k3⟩
                · left; omega
                · by_cases hl0 : l = 0
                  · subst hl0
                    right
                    simp only [Int.toNat_zero, Nat.zero_mul, Nat.add_zero, Int.sub_zero]
                    subst hmc
                    simp only [Int.toNat_natCast]
                    exact ⟨by omega, k0, k2, by rw [← hM]; simpa using k3⟩
                  · rcases c5 with c5 | c5 | c5
                    · exact absurd c5 hl0
                    · exact absurd c5 h0
                    · unfold szOk at c5
                      simp only at c5
                      split at c5
                      · rename_i cc ee own hg
                        obtain ⟨rr, q1, q2⟩ := S.cells h1 hg
                        rw [h1] at q1
                        cases q1
                        cases own with
                        | false =>
                          have hx := (q2.ext rfl).2
                          left
                          rw [hx] at k3
                          have : c' = c := by
                            have : c' * r.sz ≤ c * r.sz := by omega
                            have := Nat.le_of_mul_le_mul_right this (by omega)
                            omega
                          omega
                        | true =>
                          have hz := (q2.mine rfl).2
                          simp only [Bool.not_true, Bool.false_or, beq_iff_eq] at c5
                          rw [hz] at c5
                          cases c5
                          right
                          have hlc : l.toNat ≤ c := by omega
                          have f1 : (m - l).toNat = c - l.toNat := by omega
                          have f2 : M - l.toNat = c' - l.toNat := by omega
                          have g1 : l.toNat * r.sz + (c - l.toNat) * r.sz = c * r.sz := by rw [← Nat.add_mul]; congr 1; omega
                          have g2 : l.toNat * r.sz + (c' - l.toNat) * r.sz = c' * r.sz := by rw [← Nat.add_mul]; congr 1; omega
                          rw [f1, f2]
                          dsimp only
                          exact ⟨by omega, k0, by omega, by omega⟩
                      · cases c5
      · cases hv
    · cases hv
  · cases hv
end Go.Proofs.Ev
