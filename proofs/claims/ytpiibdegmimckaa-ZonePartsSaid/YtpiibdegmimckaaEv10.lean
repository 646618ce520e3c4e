/- append, copy, clear. -/
import Derived.Test.YtpiibdegmimckaaEv9
set_option linter.unusedVariables false
set_option linter.unusedSimpArgs false
namespace Go.Proofs.Ev
open Go Go.RowKit
variable {G : Code → Prop} {P : Program} {w0 : World} {ρ : Ren} {D : List Mk} {h : AH} {w : World}

theorem cellsOf_length {size n : Nat} {x : Value} {cs : List Value} (hc : cellsOf P size n x h = some cs) : cs.length = n * size ∨ (∃ s, x = .string s) ∧ cs.length = n := by
  unfold cellsOf at hc
  split at hc
  · split at hc
    · cases hc; rename_i h0; subst h0; simp
    · cases hc
  · split at hc
    · rename_i h0; cases hc; left; simp [h0]
    · split at hc
      · left
        unfold AH.row at hc
        split at hc
        · split at hc
          · cases hc; simp; omega
          · cases hc
        · cases hc
      · cases hc
  · split at hc
    · cases hc
      rename_i s hn
      right
      refine ⟨⟨s, rfl⟩, ?_⟩
      simp only [Array.toList_map, List.length_map, Array.length_toList]
      have : (s.extract 0 n).data.size = (s.extract 0 n).size := rfl
      rw [this, ByteArray.size_extract]
      omega
    · cases hc
  · cases hc
theorem LsR.append {a a' b b' : List Value} (h1 : LsR ρ a a') (h2 : LsR ρ b b') : LsR ρ (a ++ b) (a' ++ b') := by
  induction h1 with
  | nil => exact h2
  | cons hx _ ih => exact .cons hx ih
theorem LsR.oneCell' {a a' : List Value} (h1 : LsR ρ a a') (ha : a.all oneCell = true) : ∀ v ∈ a', v.oneCell' = true := by
  induction h1 with
  | nil => intro v hv; cases hv
  | cons hx _ ih =>
    simp only [List.all_cons, Bool.and_eq_true] at ha
    intro v hv
    rcases List.mem_cons.1 hv with rfl | hv
    · exact hx.oneCell ha.1
    · exact ih ha.2 v hv

/-- The model's append, where the slice is not long enough for new memory and where it is. -/
theorem append_run {ts : Array TypeId} {t e : TypeId} {u : TypeDesc} {size bytes m n c' : Nat} {z : Value} {base' : Option Addr} {x' : Value} {new' old' : List Value}
    (h0 : ts[0]?.bind (elemT P) = some e) (h1 : ts[1]?.bind P.underlying = some u) (hu : isIntT u = false)
    (hs : szT P e = some size) (hb : bytesT P e = some bytes) (hz : zeroT P e = some z) (hbd : (n + m + 1024) * (bytes + 1) ≤ 2 ^ 46)
    (hl : ∀ w, (Builtin.lenOf x').run P w = .ok m w)
    (hlt : c' < n + m)
    (hnew : (Builtin.firstCells size m x').run P w.drew = .ok new'.toArray w.drew) (hold : (Builtin.firstCells size n (.slice base' n c')).run P w.drew = .ok old'.toArray w.drew) :
    ∃ newCap, n + m ≤ newCap ∧ (Builtin.append_ ts t #[.slice base' n c', x']).run P w =
      .ok (.slice (some ⟨w.heap.size, 0, none⟩) (n + m) newCap) (w.drew.alloc (.cells (old'.toArray ++ new'.toArray ++ Builtin.zeroCells z.cells (newCap - (n + m))) e (0, 0))) := by
  obtain ⟨info, hi, hib⟩ := run_bytesT hb w
  have hi' : (typeInfo e).run P w.drew = .ok info w.drew := by
    have : ∃ i, P.info? e = some i := by
      unfold szT at hs
      cases hq : P.info? e with
      | none => rw [hq] at hs; cases hs
      | some i => exact ⟨i, rfl⟩
    obtain ⟨i, hq⟩ := this
    simp [typeInfo, hq] at hi ⊢
    exact hi
  cases ht0 : (ts[0]? : Option TypeId) with
  | none => rw [ht0] at h0; cases h0
  | some t0 =>
    rw [ht0] at h0
    have hu0 := elem_of (P := P) (t := t0) h0
    cases ht1 : (ts[1]? : Option TypeId) with
    | none => rw [ht1] at h1; cases h1
    | some t1 =>
      rw [ht1] at h1
      have hu1 : P.underlying t1 = some u := h1
      generalize hcap : Question.cut (.appendCap (n + m) c' e) (w.tape w.drawn (.appendCap (n + m) c' e)) = newCap
      refine ⟨newCap, by rw [← hcap]; simp [Question.cut], ?_⟩
      have r1 : (choose (.appendCap (n + m) c' e)).run P w = .ok newCap w.drew := by
        simp only [run_choose, Question.forced, Bool.false_eq_true, if_false, hcap]; rfl
      have hcb := cap_bound hlt
      have g1 : (n + m) * (bytes + 1) + 1024 * (bytes + 1) ≤ 2 ^ 46 := by rw [← Nat.add_mul]; exact hbd
      have g2 : Builtin.nextslicecap (n + m) c' * bytes ≤ (2 * (n + m) + 192) * bytes := Nat.mul_le_mul_right _ hcb
      have g3 : (2 * (n + m) + 192) * bytes ≤ 2 * ((n + m) * (bytes + 1) + 1024 * (bytes + 1)) := by
        have : (2 * (n + m) + 192) * bytes = 2 * ((n + m) * bytes) + 192 * bytes := by rw [Nat.add_mul, Nat.mul_assoc]
        rw [this, Nat.mul_add (n + m) bytes 1, Nat.mul_add 1024 bytes 1]
        omega
      have k2 : ¬ (Builtin.nextslicecap (n + m) c' * bytes > 2 ^ 48) := by omega
      have k1 : ¬ (((n + m : Nat) : Int) > IntKind.i64.max) := by
        have : (n + m) * 1 ≤ (n + m) * (bytes + 1) := Nat.mul_le_mul_left _ (by omega)
        have : IntKind.i64.max = 9223372036854775807 := by decide
        omega
      unfold Builtin.append_
      simp only [List.getElem?_toArray, List.getElem?_cons_zero, List.getElem?_cons_succ, ht0, ht1, Sem.run_bind, run_und hu0, Result.andThen_ok, run_sz hs, run_und hu1, Sem.run_pure]
      cases u with
      | int k => simp [isIntT] at hu
      | _ =>
        simp only [Bool.false_eq_true, if_false, hl, Result.andThen_ok, Nat.not_le.2 hlt, Sem.run_bind, hi, hib, k1, k2, false_and, r1, run_askRoom, hi', hold, hnew, Sem.run_pure, Bool.not_false, if_true, run_zero hz, newRow, run_newObj, Sem.run_ite]
        rfl
/-- The model's append within the capacity. -/
theorem append_in {ts : Array TypeId} {t e : TypeId} {u : TypeDesc} {size m n c' : Nat} {base' : Option Addr} {x' : Value} {new' : List Value} {w1 : World}
    (h0 : ts[0]?.bind (elemT P) = some e) (h1 : ts[1]?.bind P.underlying = some u) (hu : isIntT u = false) (hs : szT P e = some size)
    (hl : ∀ w, (Builtin.lenOf x').run P w = .ok m w) (hle : n + m ≤ c') (hnew : (Builtin.firstCells size m x').run P w = .ok new'.toArray w)
    (hst : match base' with | none => w1 = w | some a => (storeCells (a.add (n * size)) new').run P w = .ok () w1) :
    (Builtin.append_ ts t #[.slice base' n c', x']).run P w = .ok (.slice base' (n + m) c') w1 := by
  cases ht0 : (ts[0]? : Option TypeId) with
  | none => rw [ht0] at h0; cases h0
  | some t0 =>
    rw [ht0] at h0
    have hu0 := elem_of (P := P) (t := t0) h0
    cases ht1 : (ts[1]? : Option TypeId) with
    | none => rw [ht1] at h1; cases h1
    | some t1 =>
      rw [ht1] at h1
      have hu1 : P.underlying t1 = some u := h1
      unfold Builtin.append_
      simp only [List.getElem?_toArray, List.getElem?_cons_zero, List.getElem?_cons_succ, ht0, ht1, Sem.run_bind, run_und hu0, Result.andThen_ok, run_sz hs, run_und hu1, Sem.run_pure]
      cases u with
      | int k => simp [isIntT] at hu
      | _ =>
        simp only [Bool.false_eq_true, if_false, hl, Result.andThen_ok, hle, if_true, Sem.run_bind, hnew, Bool.not_false]
        cases base' with
        | none => simp only at hst; subst hst; rfl
        | some a => simp only at hst ⊢; simp only [Sem.run_bind, hst, Result.andThen_ok]; rfl
theorem append_sim (S : Sim G P w0 ρ D h w) {ts : Array TypeId} {t : TypeId} {s s' x x' v : Value} {h2 : AH} (hs : VR ρ s s') (hx : VR ρ x x') (hp : pAppend P ts s x h = some (v, h2)) :
    Does G P w0 ρ D w (Builtin.append_ ts t #[s', x']) v h2 := by
  unfold pAppend at hp
  split at hp
  case h_2 => cases hp
  rename_i e u base n c h0 h1
  split at hp
  case isTrue => cases hp
  rename_i hu
  simp only [Bool.not_eq_true] at hu
  split at hp
  case h_2 => cases hp
  rename_i size bytes m z hsz hb hm hz
  split at hp
  case h_2 => cases hp
  rename_i new old hnew hold
  have hl := fun w => lenOf_run (P := P) hx hm w
  obtain ⟨new', kn1, kn2⟩ := firstCells_sim S hx hnew
  split at hp
  · rename_i hle
    -- within the capacity that the evaluator knows
    split at hp
    · cases hp
      cases hs
      exact ⟨ρ, _, w, append_in h0 h1 hu hsz hl hle kn1 rfl, Ren.le_refl _, .nilSlice _ _, S⟩
    · rename_i a
      have hres : ∀ a' c', VR ρ (.slice (some a) n c) (.slice (some a') n c') → n + m ≤ c → VR ρ (.slice (some a) (n + m) c) (.slice (some a') (n + m) c') := by
        intro a' c' hv hle
        cases hv with
        | slice0 =>
          obtain rfl : m = 0 := by omega
          exact .slice0 _ _
        | slice _ _ _ _ _ r p1 p2 p3 => exact .slice _ _ _ _ _ r p1 p2 p3
      have hcc : ∀ a' c', VR ρ (.slice (some a) n c) (.slice (some a') n c') → c ≤ c' := by
        intro a' c' hv
        cases hv with
        | slice0 => exact Nat.le_refl _
        | slice _ _ _ _ _ r p1 p2 p3 => rcases p3 with rfl | p3 <;> omega
      have hform : ∃ a' c', s' = .slice (some a') n c' := by cases hs <;> exact ⟨_, _, rfl⟩
      obtain ⟨a', c', rfl⟩ := hform
      have hle' := hcc a' c' hs
      split at hp
      · rename_i hem
        cases hp
        have : new = [] := by simpa using hem
        subst this
        cases kn2
        exact ⟨ρ, _, w, append_in (w1 := w) h0 h1 hu hsz hl (by omega) kn1 (by simp [storeCells]), Ren.le_refl _, hres a' c' hs hle, S⟩
      · rename_i hem
        split at hp
        case isFalse => cases hp
        rename_i hone
        cases hput : h.put a.block (a.off + n * (size + 1)) new with
        | none => rw [hput] at hp; cases hp
        | some h3 =>
          rw [hput] at hp
          cases hp
          have hlen := cellsOf_length hnew
          cases hs with
          | slice0 =>
            exfalso
            obtain rfl : m = 0 := by omega
            rcases hlen with hlen | ⟨_, hlen⟩ <;> (simp at hlen; subst hlen; simp at hem)
          | slice _ _ _ _ _ r p1 p2 p3 =>
            obtain ⟨_, r2, hρ2, rfl⟩ := p1
            rw [p2] at hρ2
            cases hρ2
            obtain ⟨w2, q1, q2⟩ := put_sim new new' S hput p2 kn2 hone 0 (r.base + a.off + n * (size + 1)) (by omega)
            refine ⟨ρ, _, w2, append_in h0 h1 hu hsz hl (by omega) kn1 (by show (storeCells ((⟨r.blk, r.base + a.off, none⟩ : Addr).add (n * (size + 1))) new').run P w = _; rw [add_at]; exact q1), Ren.le_refl _, .slice _ _ _ _ _ r ⟨by assumption, r, p2, rfl⟩ p2 p3, q2⟩
  · rename_i hgt
    split at hp
    case isFalse => cases hp
    rename_i hcond
    simp only [Bool.and_eq_true, decide_eq_true_eq, beq_iff_eq] at hcond
    obtain ⟨⟨⟨⟨⟨hbd, hzp⟩, hzs⟩, hok⟩, hone⟩, hlnew⟩ := hcond
    simp only [Option.some.injEq, Prod.mk.injEq] at hp
    obtain ⟨rfl, rfl⟩ := hp
    have hlold : old.length = n * (size + 1) := by
      rcases cellsOf_length hold with h9 | ⟨⟨_, h9⟩, _⟩
      · exact h9
      · cases h9
    have hlen : (old ++ new).length = (n + m) * (size + 1) := by rw [List.length_append, hlold, hlnew, Nat.add_mul]
    obtain ⟨new2, kd1, kd2⟩ := firstCells_sim S.drew hx hnew
    -- new memory on both sides
    have fresh : ∀ base' c', s' = .slice base' n c' → c' < n + m → ∀ h3 : AH, h3.n = h.n → Sim G P w0 ρ D h3 w →
        Does G P w0 ρ D w (Builtin.append_ ts t #[s', x']) (.slice (some ⟨h.n, 0, none⟩) (n + m) (n + m)) (h3.alloc (.cells (old ++ new) e true)) := by
      intro base' c' hform hlt h3 hn3 S3
      subst hform
      obtain ⟨old', ko1, ko2⟩ := firstCells_sim S.drew hs hold
      obtain ⟨newCap, g1, g2⟩ := append_run (t := t) h0 h1 hu hsz hb hz hbd hl hlt kd1 ko1
      have kk := ko2.append kd2
      have hl' : (old' ++ new2).length = (n + m) * (size + 1) := by rw [← kk.length, hlen]
      have hsize : (old'.toArray ++ new2.toArray ++ Builtin.zeroCells z.cells (newCap - (n + m))).size = newCap * (size + 1) := by
        rw [Array.size_append, Array.size_append, zeroCells_size, hzs, List.size_toArray, List.size_toArray, ← List.length_append, hl', ← Nat.add_mul]
        congr 1
        omega
      have hle2 : (n + m) * (size + 1) ≤ newCap * (size + 1) := Nat.mul_le_mul_right _ g1
      have N := new_sim (e := e) (e' := e) S3.drew (cs := old ++ new) (c' := old'.toArray ++ new2.toArray ++ Builtin.zeroCells z.cells (newCap - (n + m))) hsz (by rw [hsize, hlen]; exact hle2)
        (fun k v hk => by
          obtain ⟨v', q1, q2⟩ := kk.get hk
          refine ⟨v', ?_, q2⟩
          have hk' : k < (old' ++ new2).length := (List.getElem?_eq_some_iff.1 q1).1
          rw [Array.getElem?_append_left (by simpa using hk')]
          simpa using q1) (0, 0) (.inl rfl)
      rw [hn3] at N
      refine ⟨_, _, _, g2, ext_le S _, new_slice ρ h.n w.heap.size _ rfl (.inr ⟨g1, Nat.succ_pos _, ?_, ?_⟩), N⟩
      · exact hlen.symm
      · dsimp only; rw [hsize]; exact Nat.le_refl _
    cases base with
    | none =>
      cases hs
      exact fresh none c rfl (by omega) h rfl S
    | some a =>
      dsimp only
      have S3 := kill_sim S a.block (a.off + c * (size + 1))
      cases hs with
      | slice0 => exact fresh _ 0 rfl (by omega) _ (kill_n _ _ _) S3
      | slice _ a' _ _ c' r p1 p2 p3 =>
        by_cases hlt : c' < n + m
        · exact fresh _ c' rfl hlt _ (kill_n _ _ _) S3
        · obtain ⟨_, r2, hρ2, rfl⟩ := p1
          rw [p2] at hρ2
          cases hρ2
          rcases p3 with rfl | ⟨j1, j2, j3, j4⟩
          · exact absurd (by omega) hlt
          unfold szOk at hok
          simp only at hok
          split at hok
          case h_2 => cases hok
          rename_i cc ee own hg
          obtain ⟨rr, q1, q2⟩ := S.cells p2 hg
          rw [p2] at q1
          cases q1
          cases own with
          | false =>
            exfalso
            have hx := (q2.ext rfl).2
            rw [hx] at j4
            have : c' * r.sz ≤ c * r.sz := by omega
            have := Nat.le_of_mul_le_mul_right this j2
            omega
          | true =>
            have hz9 := (q2.mine rfl).2
            simp only [Bool.not_true, Bool.false_or, beq_iff_eq] at hok
            rw [hz9] at hok
            simp only [Option.some.injEq] at hok
            rw [hok] at j3 j4
            have hn9 := q2.n
            obtain ⟨c0, e0, fz, f1, f2, f3, f4⟩ := q2.heap
            have hkill : kill h a.block (a.off + c * (size + 1)) = h.set a.block .dead := by
              unfold kill
              rw [hg]
              simp only
              rw [if_pos (by omega)]
            rw [hkill]
            have hlt' : n + m ≤ c' := by omega
            have hcm : (n + m) * (size + 1) ≤ c' * (size + 1) := Nat.mul_le_mul_right _ hlt'
            have hcm2 : (n + m) * (size + 1) = n * (size + 1) + m * (size + 1) := Nat.add_mul _ _ _
            have hln' : new'.length = m * (size + 1) := by rw [← kn2.length, hlnew]
            obtain ⟨w1, c1, b1, b2, b3, b4, b5, b6, b7, b8, b9, b10⟩ := stores_run (P := P) new' r.blk (r.base + a.off + n * (size + 1)) 0 w c0 e0 fz f1 (by omega)
              (fun k hk => by have := f4 rfl; omega) (kn2.oneCell' hone)
            have hb9 : Below w0.heap.size w0 w1 := S.below.trans ⟨b5, b6, b7, by omega, fun k hk => b8 k (by have := (q2.mine rfl).1; omega)⟩
            have R := S.regrow hg p2 f1 b2 b4 b3 hb9 b8 (fun k hk => b9 k (by omega)) (off := a.off) (cs := old ++ new) (sz := size + 1) (el := e) (by omega) hsz (fun k v hk => by
              rw [List.getElem?_append] at hk
              split at hk
              · rename_i hko
                rw [hlold] at hko
                have hrow : h.row a.block a.off (n * (size + 1)) = some old := by
                  unfold cellsOf at hold
                  simp only at hold
                  split at hold
                  · omega
                  · split at hold
                    · exact hold
                    · cases hold
                unfold AH.row at hrow
                rw [hg] at hrow
                simp only at hrow
                split at hrow
                case isFalse => cases hrow
                cases hrow
                rw [List.getElem?_take, if_pos hko, List.getElem?_drop] at hk
                obtain ⟨v', y1, y2⟩ := f3 _ _ hk
                refine ⟨v', ?_, y2⟩
                rw [b9 _ (by omega), ← y1]
                congr 1
                omega
              · rename_i hko
                rw [hlold] at hko
                rw [hlold] at hk
                obtain ⟨v', y1, y2⟩ := kn2.get hk
                refine ⟨v', ?_, y2⟩
                have := b10 _ _ y1
                rw [← this]
                congr 1
                omega)
            refine ⟨_, _, w1, append_in h0 h1 hu hsz hl hlt' kn1 (by show (storeCells ((⟨r.blk, r.base + a.off, none⟩ : Addr).add (n * (size + 1))) new').run P w = _; rw [add_at]; exact b1), ext_le S _, ?_, R⟩
            refine .slice _ _ _ _ _ _ ⟨rfl, _, ext_new _ _ _, by simp⟩ (ext_new _ _ _) (.inr ⟨hlt', Nat.succ_pos _, ?_, ?_⟩)
            · dsimp only; rw [hlen]; omega
            · dsimp only; omega
theorem copy_sim (S : Sim G P w0 ρ D h w) {ts : Array TypeId} {t : TypeId} {d d' x x' v : Value} {h2 : AH} (hd : VR ρ d d') (hx : VR ρ x x') (hp : pCopy P ts d x h = some (v, h2)) :
    Does G P w0 ρ D w (Builtin.copy_ ts t #[d', x']) v h2 := by
  unfold pCopy at hp
  split at hp
  case h_2 => cases hp
  rename_i e base n c m h0 hm
  split at hp
  case h_2 => cases hp
  rename_i size hsz
  split at hp
  case h_2 => cases hp
  rename_i cs hcs
  have hl := lenOf_run (P := P) hx hm w
  obtain ⟨cs', k1, k2⟩ := firstCells_sim S hx hcs
  have hform : ∃ base' c', d' = .slice base' n c' ∧ (base = none → base' = none) ∧ (∀ a, base = some a → ∃ a', base' = some a' ∧ ((n = 0 ∧ c = 0) ∨ AddrR ρ a a')) := by
    cases hd with
    | nilSlice => exact ⟨none, c, rfl, fun _ => rfl, fun a ha => (by cases ha)⟩
    | slice0 => exact ⟨_, _, rfl, (fun h9 => nomatch h9), fun a ha => ⟨_, rfl, .inl ⟨rfl, rfl⟩⟩⟩
    | slice _ _ _ _ _ r p1 p2 p3 => exact ⟨_, _, rfl, (fun h9 => nomatch h9), fun a ha => (by cases ha; exact ⟨_, rfl, .inr p1⟩)⟩
  obtain ⟨base', c', rfl, hf1, hf2⟩ := hform
  have run : ∀ w1, (match base' with | none => w1 = w | some a => (storeCells a cs').run P w = .ok () w1) → (Builtin.copy_ ts t #[.slice base' n c', x']).run P w = .ok (goInt (min m n : Nat)) w1 := by
    intro w1 hw1
    cases ht0 : (ts[0]? : Option TypeId) with
    | none => rw [ht0] at h0; cases h0
    | some t0 =>
      rw [ht0] at h0
      have hu0 := elem_of (P := P) (t := t0) h0
      unfold Builtin.copy_
      simp only [List.getElem?_toArray, List.getElem?_cons_zero, List.getElem?_cons_succ, ht0, Sem.run_bind, run_und hu0, Result.andThen_ok, run_sz hsz, hl, Sem.run_pure]
      have hmin : Nat.min m n = min m n := rfl
      rw [hmin, k1]
      simp only [Result.andThen_ok]
      cases base' with
      | none => simp only at hw1; subst hw1; rfl
      | some a => simp only at hw1 ⊢; simp only [Sem.run_bind, hw1, Result.andThen_ok]; rfl
  split at hp
  · simp only [Option.some.injEq, Prod.mk.injEq] at hp
    obtain ⟨rfl, rfl⟩ := hp
    rw [hf1 rfl]
    rw [hf1 rfl] at run
    exact ⟨ρ, _, w, run w rfl, Ren.le_refl _, .int _ _, S⟩
  · rename_i a
    obtain ⟨a', rfl, ha⟩ := hf2 a rfl
    split at hp
    · rename_i hem
      simp only [Option.some.injEq, Prod.mk.injEq] at hp
      obtain ⟨rfl, rfl⟩ := hp
      have : cs = [] := by simpa using hem
      subst this
      cases k2
      exact ⟨ρ, _, w, run w (by simp [storeCells]), Ren.le_refl _, .int _ _, S⟩
    · rename_i hem
      split at hp
      case isFalse => cases hp
      rename_i hone
      cases hput : h.put a.block a.off cs with
      | none => rw [hput] at hp; cases hp
      | some h3 =>
        rw [hput] at hp
        simp only [Option.map_some, Option.some.injEq, Prod.mk.injEq] at hp
        obtain ⟨rfl, rfl⟩ := hp
        rcases ha with ⟨rfl, _⟩ | ⟨_, r, hρ, rfl⟩
        · exfalso
          have := cellsOf_length hcs
          simp at this
          rcases this with h9 | ⟨_, h9⟩ <;> (subst h9; simp at hem)
        · obtain ⟨w2, q1, q2⟩ := put_sim cs cs' S hput hρ k2 hone 0 (r.base + a.off) (by omega)
          exact ⟨ρ, _, w2, run w2 q1, Ren.le_refl _, .int _ _, q2⟩
theorem zeroCells_eq (z : Array Value) (n : Nat) : Builtin.zeroCells z n = (Array.range (n * z.size)).map (z[· % z.size]!) := rfl
theorem clear_sim (S : Sim G P w0 ρ D h w) {ts : Array TypeId} {t : TypeId} {x x' : Value} {h2 : AH} (hx : VR ρ x x') (hp : pClear P ts x h = some h2) :
    ∃ w', (Builtin.clear_ ts t #[x']).run P w = .ok (.tuple #[]) w' ∧ Sim G P w0 ρ D h2 w' := by
  unfold pClear at hp
  split at hp
  · rename_i e n c h0
    cases hp
    cases ht0 : (ts[0]? : Option TypeId) with
    | none => rw [ht0] at h0; cases h0
    | some t0 =>
      rw [ht0] at h0
      have hu0 := elem_of (P := P) (t := t0) h0
      cases hx
      exact ⟨w, by simp [Builtin.clear_, ht0, run_und hu0], S⟩
  · rename_i e a n c h0
    cases ht0 : (ts[0]? : Option TypeId) with
    | none => rw [ht0] at h0; cases h0
    | some t0 =>
      rw [ht0] at h0
      have hu0 := elem_of (P := P) (t := t0) h0
      split at hp
      · rename_i hn
        cases hp
        subst hn
        cases hx <;> exact ⟨w, by simp [Builtin.clear_, ht0, run_und hu0], S⟩
      · rename_i hn
        split at hp
        case h_2 => cases hp
        rename_i z hz
        split at hp
        case isFalse => cases hp
        rename_i hzp
        cases hx with
        | slice0 => exact absurd rfl hn
        | slice _ a' _ _ c' r p1 p2 p3 =>
          obtain ⟨_, r2, hρ, rfl⟩ := p1
          have hz1 := zeros_sim (ρ := ρ) (z := z) (c := n) rfl hzp z.cells (fun _ => rfl)
          have hone : ((List.replicate n z.cells.toList).flatten).all oneCell = true := by
            refine List.all_eq_true.2 fun v hv => ?_
            simp only [List.mem_flatten, List.mem_replicate] at hv
            obtain ⟨l, ⟨_, rfl⟩, hv⟩ := hv
            have := List.all_eq_true.1 hzp v hv
            cases v <;> simp_all [plain0, oneCell]
          obtain ⟨w2, q1, q2⟩ := put_sim _ _ S hp hρ hz1 hone 0 (r2.base + a.off) (by omega)
          refine ⟨w2, ?_, q2⟩
          cases n with
          | zero => exact absurd rfl hn
          | succ n => simp [Builtin.clear_, ht0, run_und hu0, run_zero hz, zeroCells_eq] at q1 ⊢; rw [q1]; rfl
  · cases hp
end Go.Proofs.Ev
