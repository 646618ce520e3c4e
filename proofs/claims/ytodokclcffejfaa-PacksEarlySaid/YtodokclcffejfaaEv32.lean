/- A range over a function that is left early; blocks that become known; a row of a slice of one's own stored. -/
import Derived.Test.YtodokclcffejfaaEv31
set_option linter.unusedVariables false
set_option linter.unusedSimpArgs false
namespace Go.Proofs.Ev
open Go Go.RowKit
variable {β : Type} {P : Program} {n0 : Nat} {h0 h : AH} {L : List (Nat × AO)} {Q : β → Prop} {t : TypeId} {E : Env} {f : FuncId} {inv : Inv} {a : Act}
theorem Sta.add (S : Sta n0 h0 h L) {b : Nat} {o : AO} (hb : n0 ≤ b) (hnew : b ∉ L.map (·.1)) (hg : h.get b = some o) : Sta n0 h0 h ((b, o) :: L) := by
  refine ⟨S.grow, S.base, ⟨hg, S.mem⟩, fun p hp => ?_, ?_⟩
  · rcases List.mem_cons.1 hp with rfl | hp
    · exact hb
    · exact S.new p hp
  · rw [List.map_cons, List.nodup_cons]
    exact ⟨hnew, S.nodup⟩
theorem Sta.fresh (S : Sta n0 h0 h L) {b : Nat} (hb : h.n ≤ b) : b ∉ L.map (·.1) := by
  intro hc
  obtain ⟨p, hp, he⟩ := List.mem_map.1 hc
  have := S.mem.lt p hp
  omega
theorem Tl.rangeE {fn : FuncId} {first captured : Array Value} {ps : Array Tmp} {as bd : Code} {K : XE → AH → Option β} {R1 R2 : AH → Prop} (id : Nat) (hent : E.enters (.func (.func fn) first captured) = true) (hid : (exitIds bd).contains id = true)
    (hcall : Tl (inv (.func fn) captured (first ++ #[.func (.yield h.n) #[] #[]]) (h.alloc (.loop .ready none f a.tmps ps as bd))) fun r => ∃ st pend f' ts ps', r.2.get h.n = some (.loop st pend f' ts ps' as bd) ∧ st ≠ .busy ∧
      ((pend = none ∧ R1 (r.2.set h.n (.loop .exhausted pend f' ts ps' as bd))) ∨ (pend = some (.exit id) ∧ R2 (r.2.set h.n (.loop .exhausted pend f' ts ps' as bd)))))
    (hk1 : ∀ h2, R1 h2 → Tl (K .normal h2) Q) (hk2 : ∀ h2, R2 h2 → Tl (K (.exit id) h2) Q) : Tl (kRange E f inv (.func (.func fn) first captured) ps as bd a h K) Q := by
  obtain ⟨⟨v, h'⟩, hc, st, pend, f', ts, ps', hg, hst, hR⟩ := hcall
  simp only at hg hR
  unfold kRange
  rw [hent]
  rcases hR with ⟨rfl, hR⟩ | ⟨rfl, hR⟩
  · have : eRange f inv (.func (.func fn) first captured) ps as bd a h = some (.normal, a, h'.set h.n (.loop .exhausted none f' ts ps' as bd)) := by
      unfold eRange
      simp only [hc, hg]
      rw [if_neg hst]
    rw [this]
    exact hk1 _ hR
  · have : eRange f inv (.func (.func fn) first captured) ps as bd a h = some (.exit id, a, h'.set h.n (.loop .exhausted (some (.exit id)) f' ts ps' as bd)) := by
      unfold eRange
      simp only [hc, hg]
      rw [if_neg hst, if_pos hid]
    rw [this]
    exact hk2 _ hR
theorem rdEnd_X {x : XE} {l : Nat} {st : LoopState} {pend : Option Code} {f1 : FuncId} {ts1 : Array Value} {ps1 : Array Tmp} {as1 bd1 : Code} (S : Sta n0 h0 h L) (i : Nat)
    (hi : L[i]? = some (l, .loop st pend f1 ts1 ps1 as1 bd1)) : ∃ h', rdEnd l x h = some (.bool (pendOf x).isNone, h') ∧ Sta n0 h0 h' (L.set i (l, .loop (if (pendOf x).isNone then .ready else .done) (pendOf x) f1 ts1 ps1 as1 bd1)) ∧ ∀ j, j ≠ l → h'.get j = h.get j := by
  unfold rdEnd
  rw [S.mem.at_ hi]
  exact ⟨_, rfl, S.set i hi _, fun j hj => AH.get_set_other h _ (Ne.symm hj)⟩
theorem splice_flat {n : Nat} {r tl : List Value} (hr : r.length = n) : ∀ {rows : List (List Value)} {i : Nat}, (∀ r ∈ rows, r.length = n) → i < rows.length → splice (rows.flatten ++ tl) (i * n) r = (rows.set i r).flatten ++ tl := by
  intro rows
  induction rows with
  | nil => intro i _ h; simp at h
  | cons q rows ih =>
    intro i hn hi
    have hq := hn q (by simp)
    cases i with
    | zero =>
      unfold splice
      simp only [Nat.zero_mul, List.take_zero, List.nil_append, Nat.zero_add, List.flatten_cons, List.set_cons_zero, List.append_assoc]
      congr 1
      rw [hr, ← hq, List.drop_left]
    | succ i =>
      have := ih (i := i) (fun x hx => hn x (by simp [hx])) (by simpa using hi)
      unfold splice at this ⊢
      simp only [List.flatten_cons, List.set_cons_succ, List.append_assoc]
      rw [← this, Nat.succ_mul, Nat.add_comm (i * n) n, ← hq, Nat.add_assoc]
      simp only [List.take_length_add_append, List.drop_length_add_append, List.append_assoc]
theorem SlX.setRow {v : Value} {n b : Nat} {rows : List (List Value)} (S : SlX P h v n b rows) {i : Nat} {r : List Value} (hi : i < rows.length) (hr : r.length = n) :
    ∃ cs e, h.get b = some (.cells cs e true) ∧ i * n + n ≤ cs.length ∧ ∀ h', h'.get b = some (.cells (splice cs (i * n) r) e true) → SlX P h' v n b (rows.set i r) := by
  obtain ⟨⟨cs, e, h1, h2⟩, h5⟩ := S.lie
  obtain ⟨h3, h4⟩ := h2 (by rintro rfl; simp at hi)
  have hle : (i + 1) * n ≤ rows.length * n := Nat.mul_le_mul_right n hi
  rw [Nat.succ_mul] at hle
  rw [List.drop_zero] at h4
  have hcs : cs = rows.flatten ++ cs.drop (rows.length * n) := by rw [← h4, List.take_append_drop]
  refine ⟨cs, e, h1, by omega, fun h' hg => ⟨by rw [List.length_set]; exact S.form, ⟨⟨_, e, hg, fun _ => ?_⟩, fun q hq => ?_⟩, ?_⟩⟩
  · have hw : ∀ q ∈ rows.set i r, q.length = n := fun q hq => by
      rcases List.mem_or_eq_of_mem_set hq with hq | rfl
      · exact h5 q hq
      · exact hr
    rw [hcs, splice_flat hr h5 hi]
    have hl := length_flat hw
    rw [List.length_set] at hl
    rw [List.length_set, List.drop_zero]
    refine ⟨by simp only [List.length_append]; omega, ?_⟩
    rw [← hl, List.take_left]
  · rcases List.mem_or_eq_of_mem_set hq with hq | rfl
    · exact h5 q hq
    · exact hr
  · have := S.sz
    unfold szOk at this ⊢
    simp only at this ⊢
    rw [h1] at this
    rw [hg]
    exact this
end Go.Proofs.Ev
