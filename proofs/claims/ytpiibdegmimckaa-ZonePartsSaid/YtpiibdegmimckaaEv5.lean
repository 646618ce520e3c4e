/- The operations that make no memory: what the evaluator says of them holds of the model. -/
import Derived.Test.YtpiibdegmimckaaEv4
import Derived.Laws.BytesArg
set_option linter.unusedVariables false
set_option linter.unusedSimpArgs false
namespace Go.Proofs.Ev
open Go Go.RowKit
variable {G : Code → Prop} {P : Program} {w0 : World} {ρ : Ren} {D : List Mk} {h : AH} {w : World}

theorem chk_some {o : Option Value} {v : Value} (hc : chk o = some v) : o = some v ∧ plain v = true := by
  unfold chk at hc
  split at hc
  · split at hc
    · cases hc; exact ⟨rfl, by assumption⟩
    · cases hc
  · cases hc
theorem prun_bind {α β : Type} (x : Sem α) (f : α → Sem β) : prun P (x >>= f) = (prun P x).bind fun a => prun P (f a) := by
  show prun P (x.bind f) = _
  induction x with
  | pure a => simp [Sem.bind, prun]
  | program k ih => simp only [Sem.bind, prun]; exact ih P
  | _ => simp [Sem.bind, prun]
@[simp] theorem prun_pure {α : Type} (a : α) : prun P (pure a : Sem α) = some a := rfl
@[simp] theorem prun_halt {α : Type} (x : Halt) : prun P (Sem.halt x : Sem α) = none := rfl
@[simp] theorem prun_stuck {α : Type} (x : String) : prun P (stuck x : Sem α) = none := rfl
theorem prun_und (t : TypeId) : prun P (underlying t) = P.underlying t := by
  unfold underlying
  rw [prun_bind]
  show ((prun P (Sem.program Sem.pure)).bind _) = _
  simp only [prun, Option.bind_some]
  cases P.underlying t <;> rfl
theorem prun_sizeOf (t : TypeId) : prun P (sizeOf t) = szT P t := by
  unfold sizeOf typeInfo szT
  rw [prun_bind, prun_bind]
  show (((prun P (Sem.program Sem.pure)).bind _).bind _) = _
  simp only [prun, Option.bind_some]
  cases P.info? t <;> rfl
theorem prun_isAgg (t : TypeId) : prun P (isAgg t) = isAggT P t := by
  unfold isAgg isAggT
  rw [prun_bind, prun_und]
  cases P.underlying t with
  | none => rfl
  | some d => cases d <;> rfl

theorem nil_sim {t : TypeId} {x y x' y' : Value} (hx : VR ρ x x') (hy : VR ρ y y') (hc : nilCmp P t x y = true) (w : World) :
    (∀ d, (Op.equalIn (d + 1) t x' y').run P w = .ok false w) ∧ (∀ op ox oy, (eqGuard op t ox oy x' y').run P w = .ok () w) ∧
    binOp .eql t x' y' = (do pure (.bool (← Op.equal t x' y'))) ∧ binOp .neq t x' y' = (do pure (.bool (!(← Op.equal t x' y')))) := by
  unfold nilCmp at hc
  split at hc
  case h_11 => cases hc
  all_goals
    cases hx <;> cases hy <;> refine ⟨fun d => ?_, fun op ox oy => ?_, rfl, rfl⟩
  all_goals first
    | (unfold eqGuard; cases op <;> simp; done)
    | (simp only [Op.equalIn, Sem.run_bind, run_und (P := P) (by assumption), Result.andThen_ok]
       rfl)
theorem bin_sim {op : BinOp} {t : TypeId} {ox oy : Operand} {x y x' y' v : Value} (hx : VR ρ x x') (hy : VR ρ y y') (hv : pBin P op t ox oy x y = some v) (w : World) :
    ∃ v', (do eqGuard op t ox oy x' y'; binOp op t x' y').run P w = .ok v' w ∧ VR ρ v v' := by
  unfold pBin at hv
  split at hv
  · rename_i hp
    simp only [Bool.and_eq_true] at hp
    obtain ⟨h1, h2⟩ := chk_some hv
    have ex := hx.eqP hp.1
    have ey := hy.eqP hp.2
    subst ex; subst ey
    exact ⟨v, prun_run h1 w, VR.reflP ρ h2⟩
  · split at hv
    · split at hv
      · rename_i hc
        cases hv
        obtain ⟨k1, k2, k3, k4⟩ := nil_sim hx hy hc w
        refine ⟨_, ?_, .bool false⟩
        rw [Sem.run_bind, k2, Result.andThen_ok, k3, Sem.run_bind]
        have : (Op.equal t x' y').run P w = .ok false w := k1 9999
        rw [this]
        rfl
      · cases hv
    · split at hv
      · rename_i hc
        cases hv
        obtain ⟨k1, k2, k3, k4⟩ := nil_sim hx hy hc w
        refine ⟨_, ?_, .bool true⟩
        rw [Sem.run_bind, k2, Result.andThen_ok, k4, Sem.run_bind]
        have : (Op.equal t x' y').run P w = .ok false w := k1 9999
        rw [this]
        rfl
      · cases hv
    · cases hv
theorem un_sim {op : UnOp} {x x' v : Value} (hx : VR ρ x x') (hv : pUn P op x = some v) (w : World) : ∃ v', (Op.unary op x').run P w = .ok v' w ∧ VR ρ v v' := by
  unfold pUn at hv
  split at hv
  · rename_i hp
    obtain ⟨h1, h2⟩ := chk_some hv
    have ex := hx.eqP hp
    subst ex
    exact ⟨v, prun_run h1 w, VR.reflP ρ h2⟩
  · cases hv
theorem bytesOf_nums : ∀ {cs : List Value} {bs : List UInt8}, bytesOf cs = some bs → ∃ xs : List Int, cs = xs.map (Value.int .u8) ∧ bs = xs.map fun n => UInt8.ofNat n.toNat := by
  intro cs
  induction cs with
  | nil => intro bs hb; simp [bytesOf] at hb; subst hb; exact ⟨[], rfl, rfl⟩
  | cons c cs ih =>
    intro bs hb
    unfold bytesOf at hb
    split at hb
    · rename_i he; cases he
    · rename_i n r he
      cases he
      cases hr : bytesOf cs with
      | none => rw [hr] at hb; cases hb
      | some bs' =>
        rw [hr] at hb
        cases hb
        obtain ⟨xs, h1, h2⟩ := ih hr
        exact ⟨n :: xs, by simp [h1], by simp [h2]⟩
    · cases hb
theorem conv_sim (S : Sim G P w0 ρ D h w) {s d : TypeId} {x x' v : Value} (hx : VR ρ x x') (hv : pConv P s d x h = some v) :
    ∃ v', (convert s d x').run P w = .ok v' w ∧ VR ρ v v' := by
  unfold pConv at hv
  split at hv
  · rename_i hp
    have ex := hx.eqP hp
    subst ex
    split at hv
    · cases hv
    · rename_i n c hd
      split at hv
      · rename_i hu
        cases hv
        cases he : elemT P s with
        | none => rw [he] at hu; cases hu
        | some e =>
          rw [he] at hu
          simp only [Option.bind_some] at hu
          have hs : P.underlying s = some (.slice e) := by
            unfold elemT at he
            split at he
            · cases he; assumption
            · cases he
          exact ⟨_, run_convert_bytes_nil w s e hs hu _ _ d hd, .string _⟩
      · cases hv
    · obtain ⟨h1, h2⟩ := chk_some hv
      exact ⟨v, prun_run h1 w, VR.reflP ρ h2⟩
  · split at hv
    · rename_i a n c e he hd _
      have hs : P.underlying s = some (.slice e) := by
        unfold elemT at he
        split at he
        · cases he; assumption
        · cases he
      split at hv
      · rename_i hu
        split at hv
        · rename_i cs hcs
          cases hb : bytesOf cs with
          | none => rw [hb] at hv; cases hv
          | some bs =>
            rw [hb] at hv
            cases hv
            obtain ⟨xs, hx1, hx2⟩ := bytesOf_nums hb
            refine ⟨.string ⟨bs.toArray⟩, ?_, .string _⟩
            by_cases hn : n = 0
            · rw [if_pos hn] at hcs
              cases hcs
              subst hn
              have hxs : xs = [] := List.map_eq_nil_iff.1 hx1.symm
              subst hxs
              simp at hx2
              subst hx2
              cases hx with
              | slice0 => rw [run_convert_bytes_string w s d e _ _ _ hs hu hd]; simp [Conv.bytesToString, loadCells, loadCellsFrom]; rfl
              | slice => rw [run_convert_bytes_string w s d e _ _ _ hs hu hd]; simp [Conv.bytesToString, loadCells, loadCellsFrom]; rfl
            · rw [if_neg hn] at hcs
              cases hx with
              | slice0 => exact absurd rfl hn
              | slice _ a' _ _ c' r hr h1 h2 =>
                obtain ⟨hsp, r2, hρ2, rfl⟩ := hr
                obtain ⟨r', hρ', cs', k1, k2, k3⟩ := row_sim S hρ2 hcs
                rw [hρ2] at hρ'
                cases hρ'
                have hpl : cs.all plain0 = true := by rw [hx1]; simp [plain0]
                have := k1.eq0 hpl
                subst this
                have hlen : xs.length = n := by rw [← k2, hx1]; simp
                have := run_convert_bytes_arg (P := P) w s e hs hu r2.blk (r2.base + a.off) n c' xs hlen (fun i hi => by
                  refine k3 i _ ?_
                  rw [hx1]
                  simp [List.getElem?_eq_getElem (show i < xs.length by omega), List.getD]) d hd
                rw [this]
                simp [strOfNums, hx2]
        · cases hv
      · cases hv
    · cases hv
theorem part_sim {cs cs' : Array Value} {t : TypeId} {o : Nat} {v : Value} (hc : AsR ρ cs cs') (hv : prun P (part t cs o) = some v) (w : World) :
    ∃ v', (part t cs' o).run P w = .ok v' w ∧ VR ρ v v' := by
  unfold part at hv
  rw [prun_bind, prun_isAgg] at hv
  cases ha : isAggT P t with
  | none => rw [ha] at hv; cases hv
  | some b =>
    rw [ha] at hv
    simp only [Option.bind_some] at hv
    cases b with
    | true =>
      simp only [if_true] at hv
      rw [prun_bind, prun_sizeOf] at hv
      cases hs : szT P t with
      | none => rw [hs] at hv; cases hv
      | some n =>
        rw [hs] at hv
        simp only [Option.bind_some, prun_pure, Option.some.injEq] at hv
        subst hv
        refine ⟨.agg (cs'.extract o (o + n)), by simp [part, run_isAggT ha, run_sz hs], .agg _ _ (by simp [hc.1]) fun i v v' h1 h2 => ?_⟩
        rw [Array.getElem?_extract] at h1 h2
        split at h1
        · split at h2
          · exact hc.2 _ _ _ h1 h2
          · cases h2
        · cases h1
    | false =>
      simp only [Bool.false_eq_true, if_false] at hv
      cases hg : cs[o]? with
      | none => rw [hg] at hv; cases hv
      | some u =>
        rw [hg] at hv
        simp only [prun_pure, Option.some.injEq] at hv
        subst hv
        obtain ⟨u', h1, h2⟩ := hc.get hg
        exact ⟨u', by simp [part, run_isAggT ha, h1], h2⟩
theorem field_sim {t : TypeId} {x x' v : Value} {f : Nat} (hx : VR ρ x x') (hv : pField P t x f = some v) (w : World) :
    ∃ v', (Instr.field t x' f).run P w = .ok v' w ∧ VR ρ v v' := by
  unfold pField at hv
  split at hv
  · rename_i cs
    cases hx with
    | agg _ cs' hs hp =>
      unfold Instr.field at hv
      rw [prun_bind, prun_und] at hv
      cases hu : P.underlying t with
      | none => rw [hu] at hv; cases hv
      | some d =>
        rw [hu] at hv
        simp only [Option.bind_some] at hv
        cases d with
        | struct fs =>
          simp only at hv
          cases hf : fs[f]? with
          | none => rw [hf] at hv; cases hv
          | some fd =>
            rw [hf] at hv
            simp only [asAgg, prun_bind, prun_pure, Option.bind_some] at hv
            obtain ⟨v', h1, h2⟩ := part_sim ⟨hs, hp⟩ hv w
            exact ⟨v', by simp [Instr.field, run_und hu, hf, asAgg, h1], h2⟩
        | _ => cases hv
  · cases hv
theorem index_sim {t : TypeId} {x x' i i' v : Value} (hx : VR ρ x x') (hi : VR ρ i i') (hv : pIndex P t x i = some v) (w : World) :
    ∃ v', (Instr.index t x' i').run P w = .ok v' w ∧ VR ρ v v' := by
  unfold pIndex at hv
  split at hv
  · rename_i n s hu
    cases hx
    cases hi
    rename_i k s
    split at hv
    · rename_i h0
      cases hb : s[n.toNat]? with
      | none => rw [hb] at hv; cases hv
      | some b =>
        rw [hb] at hv
        cases hv
        exact ⟨_, by simp [Instr.index, asIntOf, run_und hu, h0, hb], .int _ _⟩
    · cases hv
  · rename_i k n cs len el hu
    cases hi
    cases hx with
    | agg _ cs' hs hp =>
      split at hv
      · rename_i hin
        split at hv
        · rename_i sz hz
          obtain ⟨v', h1, h2⟩ := part_sim ⟨hs, hp⟩ hv w
          exact ⟨v', by simp [Instr.index, asIntOf, run_und hu, hin, run_sz hz, h1], h2⟩
        · cases hv
      · cases hv
  · cases hv
theorem indexAddr_sim {t : TypeId} {x x' i i' v : Value} (hx : VR ρ x x') (hi : VR ρ i i') (hv : pIndexAddr P t x i = some v) (w : World) :
    ∃ v', (Instr.indexAt t x' i').run P w = .ok v' w ∧ VR ρ v v' := by
  unfold pIndexAddr at hv
  split at hv
  · rename_i k n a m c e hu
    cases hi
    split at hv
    · rename_i sz hz
      split at hv
      · rename_i hin
        cases hv
        cases hx with
        | slice0 => omega
        | slice _ a' _ _ c' r hr h1 h2 =>
          obtain ⟨hsp, r2, hρ2, rfl⟩ := hr
          refine ⟨.pointer (some ⟨r2.blk, r2.base + (a.off + n.toNat * sz), none⟩), ?_, .ptr _ _ ⟨rfl, r2, hρ2, rfl⟩⟩
          simp [Instr.indexAt, asIntOf, run_und hu, hin, run_sz hz, add_at, Nat.add_assoc]
      · cases hv
    · cases hv
  · rename_i k n a m e hu
    cases hi
    split at hv
    · rename_i sz hz
      split at hv
      · rename_i hin
        cases hv
        cases hx with
        | ptr _ a' hr =>
          obtain ⟨hsp, r2, hρ2, rfl⟩ := hr
          refine ⟨.pointer (some ⟨r2.blk, r2.base + (a.off + n.toNat * sz), none⟩), ?_, .ptr _ _ ⟨rfl, r2, hρ2, rfl⟩⟩
          simp [Instr.indexAt, asIntOf, run_und hu, hin, run_sz hz, add_at, Nat.add_assoc, Instr.sureAddr]
      · cases hv
    · cases hv
  · cases hv
theorem fieldAddr_sim {t : TypeId} {x x' v : Value} {f : Nat} (hx : VR ρ x x') (hv : pFieldAddr P t x f = some v) (w : World) :
    ∃ v', (Instr.fieldAt t x' f).run P w = .ok v' w ∧ VR ρ v v' := by
  unfold pFieldAddr at hv
  split at hv
  · rename_i fs a hu
    split at hv
    · rename_i fd hf
      split at hv
      · rename_i k hz
        cases hv
        cases hx with
        | ptr _ a' hr =>
          obtain ⟨hsp, r2, hρ2, rfl⟩ := hr
          refine ⟨.pointer (some ⟨r2.blk, r2.base + (a.off + fd.offset), none⟩), ?_, .ptr _ _ ⟨rfl, r2, hρ2, rfl⟩⟩
          simp [Instr.fieldAt, run_und hu, hf, Instr.sureAddr, fieldPlace, run_sz hz, add_at, Nat.add_assoc]
      · cases hv
    · cases hv
  · cases hv
end Go.Proofs.Ev
