/- Stores and ends of rounds that tell what they leave; a slice of one's own beside the blocks of 'L'. -/
import Derived.Test.YtpiibdegmimckaaEv30
set_option linter.unusedVariables false
set_option linter.unusedSimpArgs false
namespace Go.Proofs.Ev
section
open Go Go.RowKit
variable {β : Type} {P : Program} {n0 : Nat} {h0 h : AH} {L : List (Nat × AO)} {Q : β → Prop} {t : TypeId}
theorem Tl.storeX {x : Value} {K : Value × AH → Option β} {o b n : Nat} {vs : List Value} {e : TypeId} (S : Sta n0 h0 h L) (i : Nat) (hi : L[i]? = some (b, .cells vs e true)) (hs : szT P t = some n) (hn : x.cells.size = n) (hx : x.cells.toList.all oneCell = true)
    (hl : o + n ≤ vs.length) (hk : ∀ h', Sta n0 h0 h' (L.set i (b, .cells (splice vs o x.cells.toList) e true)) → (∀ j, j ≠ b → h'.get j = h.get j) → Tl (K (unk, h')) Q) :
    Tl (Ev.bnd (kSt (pStore P t (.pointer (some ⟨b, o, none⟩)) x h)) K) Q := by
  unfold pStore
  simp only
  rw [hs, hx, ← hn]
  simp only [Bool.true_and, beq_self_eq_true, if_true]
  have hg : h.get b = some (.cells vs e true) := S.mem.at_ hi
  unfold AH.put
  rw [hg]
  simp only
  rw [if_pos (by rw [Array.length_toList, hn]; exact hl)]
  exact hk _ (S.set i hi _) fun j hj => AH.get_set_other h _ (Ne.symm hj)
theorem rdEnd_normalX {l : Nat} {st : LoopState} {pend : Option Code} {f1 : FuncId} {ts1 : Array Value} {ps1 : Array Tmp} {as1 bd1 : Code} (S : Sta n0 h0 h L) (i : Nat)
    (hi : L[i]? = some (l, .loop st pend f1 ts1 ps1 as1 bd1)) : ∃ h', rdEnd l .normal h = some (.bool true, h') ∧ Sta n0 h0 h' (L.set i (l, .loop .ready none f1 ts1 ps1 as1 bd1)) ∧ ∀ j, j ≠ l → h'.get j = h.get j := by
  unfold rdEnd
  rw [S.mem.at_ hi]
  exact ⟨_, rfl, S.set i hi _, fun j hj => AH.get_set_other h _ (Ne.symm hj)⟩
theorem Tl.rdBeginX {l : Nat} {pend : Option Code} {f1 : FuncId} {ts1 : Array Value} {ps1 : Array Tmp} {as1 bd1 : Code} {K : AH → Option β} (S : Sta n0 h0 h L) (i : Nat)
    (hi : L[i]? = some (l, .loop .ready pend f1 ts1 ps1 as1 bd1)) (hk : ∀ h', Sta n0 h0 h' (L.set i (l, .loop .busy pend f1 ts1 ps1 as1 bd1)) → (∀ j, j ≠ l → h'.get j = h.get j) → Tl (K h') Q) : Tl (Ev.rdBegin l h K) Q := by
  unfold Ev.rdBegin
  rw [S.mem.at_ hi]
  exact hk _ (S.set i hi _) fun j hj => AH.get_set_other h _ (Ne.symm hj)
theorem Tl.bind {α : Type} {o : Option α} {K : α → Option β} {R : α → Prop} (C : Tl o R) (hk : ∀ r, R r → Tl (K r) Q) : Tl (Ev.bnd o K) Q := by
  obtain ⟨r, h1, h2⟩ := C
  subst h1
  exact hk r h2
theorem Sta.keep {h' : AH} (S : Sta n0 h0 h L) (hn : h.n ≤ h'.n) (hs : ∀ i, i < n0 → h'.get i = h.get i) (hL : ∀ p ∈ L, h'.get p.1 = h.get p.1) : Sta n0 h0 h' L :=
  ⟨S.grow.trans ⟨hn, hs⟩, S.base, S.mem.keep hL, S.new, S.nodup⟩
/-- A slice of one's own, apart from the blocks of 'L'. -/
def OwnL (P : Program) (n0 : Nat) (h : AH) (v : Value) (n : Nat) (rows : List (List Value)) (L : List (Nat × AO)) : Prop := v = .slice none 0 0 ∧ rows = [] ∨ ∃ b, n0 ≤ b ∧ b ∉ L.map (·.1) ∧ SlX P h v n b rows
theorem OwnL.list {v : Value} {n : Nat} {rows : List (List Value)} {L L' : List (Nat × AO)} (O : OwnL P n0 h v n rows L) (e : L'.map (·.1) = L.map (·.1)) : OwnL P n0 h v n rows L' := by
  unfold OwnL at O ⊢
  rw [e]; exact O
theorem OwnL.keep {h h' : AH} {v : Value} {n : Nat} {rows : List (List Value)} {L : List (Nat × AO)} (O : OwnL P n0 h v n rows L) (e : ∀ i, i ∉ L.map (·.1) → h'.get i = h.get i) : OwnL P n0 h' v n rows L := by
  rcases O with O | ⟨b, hb, hbL, X⟩
  · exact .inl O
  · exact .inr ⟨b, hb, hbL, X.keep (e b hbL)⟩
end
end Go.Proofs.Ev
namespace Go.Proofs.Ev
section
open Go Go.RowKit
variable {β : Type} {P : Program} {n0 : Nat} {h0 h : AH} {L : List (Nat × AO)} {Q : β → Prop} {t : TypeId} {E : Env} {f : FuncId} {inv : Inv} {a : Act}
theorem Sta.add (S : Sta n0 h0 h L) {b : Nat} {o : AO} (hb : n0 ≤ b) (hnew : b ∉ L.map (·.1)) (hg : h.get b = some o) : Sta n0 h0 h ((b, o) :: L) := by
  refine ⟨S.grow, S.base, ⟨hg, S.mem⟩, fun p hp => ?_, ?_⟩
  · rcases List.mem_cons.1 hp with rfl | hp
    · exact hb
    · exact S.new p hp
  · rw [List.map_cons, List.nodup_cons]
    exact ⟨hnew, S.nodup⟩
theorem Sta.fresh (S : Sta n0 h0 h L) {b : Nat} (hb : h.n ≤ b) : b ∉ L.map (·.1) := by
  intro hc
  obtain ⟨p, hp, he⟩ := List.mem_map.1 hc
  have := S.mem.lt p hp
  omega
theorem Tl.rangeE {fn : FuncId} {first captured : Array Value} {ps : Array Tmp} {as bd : Code} {K : XE → AH → Option β} {R1 R2 : AH → Prop} (id : Nat) (hent : E.enters (.func (.func fn) first captured) = true) (hid : (exitIds bd).contains id = true)
    (hcall : Tl (inv (.func fn) captured (first ++ #[.func (.yield h.n) #[] #[]]) (h.alloc (.loop .ready none f a.tmps ps as bd))) fun r => ∃ st pend f' ts ps', r.2.get h.n = some (.loop st pend f' ts ps' as bd) ∧ st ≠ .busy ∧
      ((pend = none ∧ R1 (r.2.set h.n (.loop .exhausted pend f' ts ps' as bd))) ∨ (pend = some (.exit id) ∧ R2 (r.2.set h.n (.loop .exhausted pend f' ts ps' as bd)))))
    (hk1 : ∀ h2, R1 h2 → Tl (K .normal h2) Q) (hk2 : ∀ h2, R2 h2 → Tl (K (.exit id) h2) Q) : Tl (kRange E f inv (.func (.func fn) first captured) ps as bd a h K) Q := by
  obtain ⟨⟨v, h'⟩, hc, st, pend, f', ts, ps', hg, hst, hR⟩ := hcall
  simp only at hg hR
  unfold kRange
  rw [hent]
  rcases hR with ⟨rfl, hR⟩ | ⟨rfl, hR⟩
  · have : eRange f inv (.func (.func fn) first captured) ps as bd a h = some (.normal, a, h'.set h.n (.loop .exhausted none f' ts ps' as bd)) := by
      unfold eRange
      simp only [hc, hg]
      rw [if_neg hst]
    rw [this]
    exact hk1 _ hR
  · have : eRange f inv (.func (.func fn) first captured) ps as bd a h = some (.exit id, a, h'.set h.n (.loop .exhausted (some (.exit id)) f' ts ps' as bd)) := by
      unfold eRange
      simp only [hc, hg]
      rw [if_neg hst, if_pos hid]
    rw [this]
    exact hk2 _ hR
theorem rdEnd_X {x : XE} {l : Nat} {st : LoopState} {pend : Option Code} {f1 : FuncId} {ts1 : Array Value} {ps1 : Array Tmp} {as1 bd1 : Code} (S : Sta n0 h0 h L) (i : Nat)
    (hi : L[i]? = some (l, .loop st pend f1 ts1 ps1 as1 bd1)) : ∃ h', rdEnd l x h = some (.bool (pendOf x).isNone, h') ∧ Sta n0 h0 h' (L.set i (l, .loop (if (pendOf x).isNone then .ready else .done) (pendOf x) f1 ts1 ps1 as1 bd1)) ∧ ∀ j, j ≠ l → h'.get j = h.get j := by
  unfold rdEnd
  rw [S.mem.at_ hi]
  exact ⟨_, rfl, S.set i hi _, fun j hj => AH.get_set_other h _ (Ne.symm hj)⟩
theorem splice_flat {n : Nat} {r tl : List Value} (hr : r.length = n) : ∀ {rows : List (List Value)} {i : Nat}, (∀ r ∈ rows, r.length = n) → i < rows.length → splice (rows.flatten ++ tl) (i * n) r = (rows.set i r).flatten ++ tl := by
  intro rows
  induction rows with
  | nil => intro i _ h; simp at h
  | cons q rows ih =>
    intro i hn hi
    have hq := hn q (by simp)
    cases i with
    | zero =>
      unfold splice
      simp only [Nat.zero_mul, List.take_zero, List.nil_append, Nat.zero_add, List.flatten_cons, List.set_cons_zero, List.append_assoc]
      congr 1
      rw [hr, ← hq, List.drop_left]
    | succ i =>
      have := ih (i := i) (fun x hx => hn x (by simp [hx])) (by simpa using hi)
      unfold splice at this ⊢
      simp only [List.flatten_cons, List.set_cons_succ, List.append_assoc]
      rw [← this, Nat.succ_mul, Nat.add_comm (i * n) n, ← hq, Nat.add_assoc]
      simp only [List.take_length_add_append, List.drop_length_add_append, List.append_assoc]
theorem SlX.setRow {v : Value} {n b : Nat} {rows : List (List Value)} (S : SlX P h v n b rows) {i : Nat} {r : List Value} (hi : i < rows.length) (hr : r.length = n) :
    ∃ cs e, h.get b = some (.cells cs e true) ∧ i * n + n ≤ cs.length ∧ ∀ h', h'.get b = some (.cells (splice cs (i * n) r) e true) → SlX P h' v n b (rows.set i r) := by
  obtain ⟨⟨cs, e, h1, h2⟩, h5⟩ := S.lie
  obtain ⟨h3, h4⟩ := h2 (by rintro rfl; simp at hi)
  have hle : (i + 1) * n ≤ rows.length * n := Nat.mul_le_mul_right n hi
  rw [Nat.succ_mul] at hle
  rw [List.drop_zero] at h4
  have hcs : cs = rows.flatten ++ cs.drop (rows.length * n) := by rw [← h4, List.take_append_drop]
  refine ⟨cs, e, h1, by omega, fun h' hg => ⟨by rw [List.length_set]; exact S.form, ⟨⟨_, e, hg, fun _ => ?_⟩, fun q hq => ?_⟩, ?_⟩⟩
  · have hw : ∀ q ∈ rows.set i r, q.length = n := fun q hq => by
      rcases List.mem_or_eq_of_mem_set hq with hq | rfl
      · exact h5 q hq
      · exact hr
    rw [hcs, splice_flat hr h5 hi]
    have hl := length_flat hw
    rw [List.length_set] at hl
    rw [List.length_set, List.drop_zero]
    refine ⟨by simp only [List.length_append]; omega, ?_⟩
    rw [← hl, List.take_left]
  · rcases List.mem_or_eq_of_mem_set hq with hq | rfl
    · exact h5 q hq
    · exact hr
  · have := S.sz
    unfold szOk at this ⊢
    simp only at this ⊢
    rw [h1] at this
    rw [hg]
    exact this
end
end Go.Proofs.Ev
namespace Go.Proofs.Ev
section
open Go Go.RowKit
variable {β : Type} {P : Program} {n0 : Nat} {h0 h : AH} {L : List (Nat × AO)} {Q : β → Prop} {t : TypeId}
theorem Tl.setRow {x v : Value} {K : Value × AH → Option β} {n b i : Nat} {rows : List (List Value)} (S : Sta n0 h0 h L) (X : SlX P h v n b rows) (hb : n0 ≤ b) (hnew : b ∉ L.map (·.1)) (hi : i < rows.length) (hr : x.cells.toList.length = n) (hs : szT P t = some n)
    (hone : x.cells.toList.all oneCell = true) (hk : ∀ h', Sta n0 h0 h' L → SlX P h' v n b (rows.set i x.cells.toList) → (∀ j, j ≠ b → h'.get j = h.get j) → Tl (K (unk, h')) Q) :
    Tl (Ev.bnd (kSt (pStore P t (.pointer (some ⟨b, i * n, none⟩)) x h)) K) Q := by
  obtain ⟨cs, ec, hg, hfit, hset⟩ := X.setRow hi hr
  have S2 := S.add hb hnew hg
  refine Tl.storeX S2 0 rfl hs (by rw [← hr, Array.length_toList]) hone hfit fun h' S3 G => ?_
  exact hk h' S3.drop (hset h' (S3.mem.at_ (i := 0) rfl)) G
theorem SlX.idx {v : Value} {n b i : Nat} {rows : List (List Value)} {t e : TypeId} {k : IntKind} (X : SlX P h v n b rows) (hi : i < rows.length) (hu : P.underlying t = some (.slice e)) (hs : szT P e = some n) :
    pIndexAddr P t v (.int k (i : Int)) = some (.pointer (some ⟨b, i * n, none⟩)) := by
  rw [X.form]
  refine (indexAddr_slice hu hs (by omega) (by omega)).trans ?_
  simp
theorem OwnL.slV {v : Value} {n : Nat} {rows : List (List Value)} (O : OwnL P n0 h v n rows L) : SlV P h v n rows := by
  rcases O with ⟨rfl, rfl⟩ | ⟨b, _, _, X⟩
  · exact .inl ⟨rfl, rfl⟩
  · exact X.slV
theorem slV_cells {v : Value} {n : Nat} {rows : List (List Value)} (S : SlV P h v n rows) : v.cells.toList = [v] ∧ v.cells.size = 1 ∧ oneCell v = true ∧ kn v = true := by
  rcases S with ⟨rfl, _⟩ | ⟨b, o, c, own, rfl, _⟩ <;> exact ⟨rfl, rfl, rfl, rfl⟩
end
section
open Go.ChangeShapes
variable {H : Type} {enc : TypeId × Value → H} {P : Program} {w : World} {base : Nat} {spare : Nat → Bool} {held : Bool}
theorem trodAll_five {t0 t1 t2 t3 t4 : TypeId} {args : Array Value} {ds : List (DataW H)} {ps : List MemPlace} (h : DataW.TrodAll enc P w base spare held [t0, t1, t2, t3, t4] args.toList ds ps) :
    ∃ v0 v1 v2 v3 v4 d0 d1 d2 d3 d4 p0 p1 p2 p3 p4, args = #[v0, v1, v2, v3, v4] ∧ ds = [d0, d1, d2, d3, d4] ∧ ps = p0 ++ p1 ++ p2 ++ p3 ++ p4 ∧ DataW.Trod enc P w base spare held t0 v0 d0 p0 ∧ DataW.Trod enc P w base spare held t1 v1 d1 p1 ∧ DataW.Trod enc P w base spare held t2 v2 d2 p2 ∧
      DataW.Trod enc P w base spare held t3 v3 d3 p3 ∧ DataW.Trod enc P w base spare held t4 v4 d4 p4 := by
  obtain ⟨v0, w0, d0, e0, p0, q0, hargs, rfl, rfl, h0, r0⟩ := trodAll_cons h
  obtain ⟨v1, w1, d1, e1, p1, q1, rfl, rfl, rfl, h1, r1⟩ := trodAll_cons r0
  obtain ⟨v2, w2, d2, e2, p2, q2, rfl, rfl, rfl, h2, r2⟩ := trodAll_cons r1
  obtain ⟨v3, w3, d3, e3, p3, q3, rfl, rfl, rfl, h3, r3⟩ := trodAll_cons r2
  obtain ⟨v4, w4, d4, e4, p4, q4, rfl, rfl, rfl, h4, r4⟩ := trodAll_cons r3
  obtain ⟨rfl, rfl, rfl⟩ := trodAll_nil r4
  exact ⟨v0, v1, v2, v3, v4, d0, d1, d2, d3, d4, p0, p1, p2, p3, p4, by cases args; simp_all, rfl, by simp, h0, h1, h2, h3, h4⟩
theorem trodAll_six {t0 t1 t2 t3 t4 t5 : TypeId} {args : Array Value} {ds : List (DataW H)} {ps : List MemPlace} (h : DataW.TrodAll enc P w base spare held [t0, t1, t2, t3, t4, t5] args.toList ds ps) :
    ∃ v0 v1 v2 v3 v4 v5 d0 d1 d2 d3 d4 d5 p0 p1 p2 p3 p4 p5, args = #[v0, v1, v2, v3, v4, v5] ∧ ds = [d0, d1, d2, d3, d4, d5] ∧ ps = p0 ++ p1 ++ p2 ++ p3 ++ p4 ++ p5 ∧ DataW.Trod enc P w base spare held t0 v0 d0 p0 ∧ DataW.Trod enc P w base spare held t1 v1 d1 p1 ∧
      DataW.Trod enc P w base spare held t2 v2 d2 p2 ∧ DataW.Trod enc P w base spare held t3 v3 d3 p3 ∧ DataW.Trod enc P w base spare held t4 v4 d4 p4 ∧ DataW.Trod enc P w base spare held t5 v5 d5 p5 := by
  obtain ⟨v0, w0, d0, e0, p0, q0, hargs, rfl, rfl, h0, r0⟩ := trodAll_cons h
  obtain ⟨v1, w1, d1, e1, p1, q1, rfl, rfl, rfl, h1, r1⟩ := trodAll_cons r0
  obtain ⟨v2, w2, d2, e2, p2, q2, rfl, rfl, rfl, h2, r2⟩ := trodAll_cons r1
  obtain ⟨v3, w3, d3, e3, p3, q3, rfl, rfl, rfl, h3, r3⟩ := trodAll_cons r2
  obtain ⟨v4, w4, d4, e4, p4, q4, rfl, rfl, rfl, h4, r4⟩ := trodAll_cons r3
  obtain ⟨v5, w5, d5, e5, p5, q5, rfl, rfl, rfl, h5, r5⟩ := trodAll_cons r4
  obtain ⟨rfl, rfl, rfl⟩ := trodAll_nil r5
  exact ⟨v0, v1, v2, v3, v4, v5, d0, d1, d2, d3, d4, d5, p0, p1, p2, p3, p4, p5, by cases args; simp_all, rfl, by simp, h0, h1, h2, h3, h4, h5⟩
end
end Go.Proofs.Ev
