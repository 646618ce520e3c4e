/- The operations that make no memory: all together. -/
import Derived.Test.YtpiibdegmimckaaEv6
set_option linter.unusedVariables false
set_option linter.unusedSimpArgs false
namespace Go.Proofs.Ev
open Go Go.RowKit
variable {G : Code → Prop} {P : Program} {w0 : World} {ρ : Ren} {D : List Mk} {h : AH} {w : World}

/-! ### Structs, arrays put together -/
inductive PsR (ρ : Ren) : List (Nat × Value) → List (Nat × Value) → Prop
  | nil : PsR ρ [] []
  | cons {i : Nat} {v v' : Value} {xs ys : List (Nat × Value)} : VR ρ v v' → PsR ρ xs ys → PsR ρ ((i, v) :: xs) ((i, v') :: ys)
theorem write_sim (off : Nat) : ∀ (l l' : List Value) (n : Nat) {a a' : Array Value}, LsR ρ l l' → AsR ρ a a' →
    AsR ρ ((l.zipIdx n).foldl (fun cs (x : Value × Nat) => cs.setIfInBounds (off + x.2) x.1) a) ((l'.zipIdx n).foldl (fun cs (x : Value × Nat) => cs.setIfInBounds (off + x.2) x.1) a') := by
  intro l
  induction l with
  | nil => intro l' n a a' hl ha; cases hl; exact ha
  | cons x xs ih =>
    intro l' n a a' hl ha
    cases hl with
    | cons hx hxs => exact ih _ (n + 1) hxs (ha.set _ hx)
theorem fill_sim (place : Nat → Option (Nat × Nat)) : ∀ {l l' : List (Nat × Value)} {a a' b : Array Value}, PsR ρ l l' → l.all (fun x => kn x.2) = true → AsR ρ a a' → Instr.fill place a l = some b →
    ∃ b', Instr.fill place a' l' = some b' ∧ AsR ρ b b' := by
  intro l
  induction l with
  | nil => intro l' a a' b hl hk ha hb; cases hl; simp [Instr.fill] at hb; subst hb; exact ⟨a', rfl, ha⟩
  | cons x xs ih =>
    intro l' a a' b hl hk ha hb
    cases hl with
    | cons hv hxs =>
      rename_i i v v' ys
      simp only [List.all_cons, Bool.and_eq_true] at hk
      have hc := hv.cells hk.1
      unfold Instr.fill at hb ⊢
      cases hp : place i with
      | none => rw [hp] at hb; cases hb
      | some q =>
        obtain ⟨off, size⟩ := q
        rw [hp] at hb
        simp only at hb ⊢
        rw [← hc.1, ← ha.1]
        split at hb
        · cases hb
        · rename_i hn
          rw [if_neg hn]
          refine ih hxs hk.2 ?_ hb
          have := write_sim (ρ := ρ) off v.cells.toList v'.cells.toList 0 (AsR.list.1 hc) ha
          rw [← Array.foldl_toList, ← Array.foldl_toList]
          simpa using this
theorem zero_refl {z : Value} (hp : plain z = true) : AsR ρ z.cells z.cells := by
  refine (VR.reflP ρ hp).cells ?_
  cases z <;> simp_all [plain, plain0, kn]
theorem build_sim {t : TypeId} {ps ps' : Array (Nat × Value)} {v : Value} (hps : PsR ρ ps.toList ps'.toList) (hv : pBuild P t ps = some v) (w : World) :
    ∃ v', (Instr.build t ps').run P w = .ok v' w ∧ VR ρ v v' := by
  unfold pBuild at hv
  cases hzt : zeroT P t with
  | none => rw [hzt] at hv; cases hv
  | some z =>
   rw [hzt] at hv
   simp only at hv
   split at hv
   · rename_i hk
     simp only [Bool.and_eq_true] at hk
     obtain ⟨hk, hzp⟩ := hk
     unfold Instr.build at hv
     rw [prun_bind] at hv
     have hzv : prun P (zeroValue t) = zeroT P t := by
       unfold zeroValue typeInfo zeroT
       rw [prun_bind, prun_bind]
       show (((prun P (Sem.program Sem.pure)).bind _).bind _) = _
       simp only [prun, Option.bind_some]
       cases P.info? t with
       | none => rfl
       | some i => cases hz : i.zero <;> simp [hz] <;> rfl
     rw [hzv] at hv
     rw [hzt] at hv
     · have hzr := zero_refl (ρ := ρ) hzp
       simp only [Option.bind_some, prun_bind, prun_und] at hv
       cases hu : P.underlying t with
       | none => rw [hu] at hv; cases hv
       | some d =>
         rw [hu] at hv
         simp only [Option.bind_some] at hv
         cases d with
         | struct fs =>
           simp only [prun_bind] at hv
           cases hm : prun P (fs.mapM fun f => do pure (f.offset, ← sizeOf f.type)) with
           | none => rw [hm] at hv; cases hv
           | some places =>
             rw [hm] at hv
             simp only [Option.bind_some] at hv
             cases hf : Instr.fill (places[·]?) z.cells ps.toList with
             | none => rw [hf] at hv; cases hv
             | some b =>
               rw [hf] at hv
               simp only [prun_pure, Option.some.injEq] at hv
               subst hv
               obtain ⟨b', h1, h2⟩ := fill_sim _ hps hk hzr hf
               have hrun := prun_run hm w
               refine ⟨.agg b', ?_, .agg _ _ h2.1 h2.2⟩
               simp only [Instr.build, Sem.run_bind, run_zero hzt, Result.andThen_ok, run_und hu]
               rw [hrun]
               simp only [Result.andThen_ok, h1, Sem.run_pure]
         | array n e =>
           simp only [prun_bind, prun_sizeOf] at hv
           cases hs : szT P e with
           | none => rw [hs] at hv; cases hv
           | some size =>
             rw [hs] at hv
             simp only [Option.bind_some] at hv
             cases hf : Instr.fill (fun i => some (i * size, size)) z.cells ps.toList with
             | none => rw [hf] at hv; cases hv
             | some b =>
               rw [hf] at hv
               simp only [prun_pure, Option.some.injEq] at hv
               subst hv
               obtain ⟨b', h1, h2⟩ := fill_sim _ hps hk hzr hf
               refine ⟨.agg b', ?_, .agg _ _ h2.1 h2.2⟩
               simp only [Instr.build, Sem.run_bind, run_zero hzt, Result.andThen_ok, run_und hu, run_sz hs, h1, Sem.run_pure]
         | _ => cases hv
   · cases hv
theorem extract_sim {x x' v : Value} {i : Nat} (hx : VR ρ x x') (hv : pExtract x i = some v) (w : World) : ∃ v', (Instr.extract x' i).run P w = .ok v' w ∧ VR ρ v v' := by
  unfold pExtract at hv
  split at hv
  · split at hv
    · rename_i vs hk
      cases hx with
      | unk => simp [kn] at hk
      | skipped => simp [kn] at hk
      | tuple _ a' hs hp =>
        obtain ⟨v', h1, h2⟩ := AsR.get ⟨hs, hp⟩ hv
        exact ⟨v', by simp [Instr.extract, h1], h2⟩
    · cases hv
  · cases hv
theorem makeIface_sim {t : TypeId} {x x' v : Value} (hx : VR ρ x x') (hv : pMakeIface P t x = some v) (w : World) : ∃ v', (Instr.makeInterface t x').run P w = .ok v' w ∧ VR ρ v v' := by
  unfold pMakeIface at hv
  split at hv
  · unfold Instr.makeInterface at hv
    rw [prun_bind, prun_und] at hv
    cases hu : P.underlying t with
    | none => rw [hu] at hv; cases hv
    | some d =>
      rw [hu] at hv
      simp only [Option.bind_some] at hv
      refine ⟨.iface t x', ?_, ?_⟩
      · cases d <;> first | (cases hv; done) | simp [Instr.makeInterface, run_und hu]
      · cases d <;> first | (cases hv; done) | (cases hv; exact .iface _ _ _ hx)
  · cases hv
theorem assert_sim {t xt : TypeId} {ok : Bool} {x x' v : Value} (hx : VR ρ x x') (hv : pAssert P x xt t ok = some v) (w : World) : ∃ v', (Instr.typeAssert x' xt t ok).run P w = .ok v' w ∧ VR ρ v v' := by
  have tup : ∀ (a a' : Value) (b : Bool), VR ρ a a' → VR ρ (.tuple #[a, .bool b]) (.tuple #[a', .bool b]) := fun a a' b ha =>
    have := (AsR.list (ρ := ρ) (a := #[a, .bool b]) (a' := #[a', .bool b])).2 (.cons ha (.cons (.bool b) .nil))
    .tuple _ _ this.1 this.2
  unfold pAssert at hv
  split at hv
  · rename_i u y
    cases hx with
    | iface _ _ y' hy =>
      split at hv
      · cases hv
      · rename_i d hni hd
        have hrun : ∀ ok, (Instr.typeAssert (.iface u y') xt t ok).run P w = (if u = t then .ok (if ok then .tuple #[y', .bool true] else y') w else
            (if ok then (zeroValue t).run P w |>.andThen fun z w => .ok (.tuple #[z, .bool false]) w else (Instr.typeAssert (.iface u y') xt t ok).run P w)) := by
          intro ok
          by_cases hut : u = t
          · cases d <;> first | (exact absurd rfl (hni _)) | simp [Instr.typeAssert, run_und hd, hut]
          · rw [if_neg hut]
            cases ok with
            | false => rfl
            | true => cases d <;> first | (exact absurd rfl (hni _)) | simp [Instr.typeAssert, run_und hd, hut]
        split at hv
        · rename_i hut
          cases hv
          refine ⟨if ok then .tuple #[y', .bool true] else y', ?_, ?_⟩
          · rw [hrun, if_pos hut]
          · cases ok
            · exact hy
            · exact tup _ _ _ hy
        · rename_i hut
          split at hv
          · rename_i hok
            split at hv
            · rename_i z hz
              split at hv
              · rename_i hp
                cases hv
                refine ⟨.tuple #[z, .bool false], ?_, tup _ _ _ (VR.reflP ρ hp)⟩
                rw [hrun, if_neg hut, if_pos hok, run_zero hz]
                rfl
              · cases hv
            · cases hv
          · cases hv
      · cases hv
  · cases hv

/-! ### Maps, read -/
theorem key_plain {kd : TypeDesc} {k : Value} (hk : keyOk kd k = true) : plain0 k = true := by
  unfold keyOk at hk
  split at hk <;> first | rfl | cases hk
theorem sameNow_key {kd : TypeDesc} {k x : Value} {b : Bool} (hs : Instr.sameNow kd k x = some b) : plain0 x = true := by
  unfold Instr.sameNow at hs
  split at hs <;> first | rfl | cases hs
theorem find_sim {kd : TypeDesc} {k : Value} : ∀ {es es' : List MapEntry} {i : Nat} {r : Option (Nat × Value)}, EsR ρ es es' → findE kd k es i = some r →
    ∃ r', Instr.findNow kd k es' i = some r' ∧ ((r = none ∧ r' = none) ∨ ∃ j v v' e', r = some (j, v) ∧ r' = some (j, v') ∧ VR ρ v v' ∧ i ≤ j ∧ es'[j - i]? = some e' ∧ Instr.sameNow kd k e'.key = some true) := by
  intro es
  induction es with
  | nil => intro es' i r he hf; cases he; simp [findE] at hf; subst hf; exact ⟨none, rfl, .inl ⟨rfl, rfl⟩⟩
  | cons e es ih =>
    intro es' i r he hf
    cases he with
    | cons hx hr =>
      rename_i e' es'
      unfold findE at hf
      cases hs : Instr.sameNow kd k e.key with
      | none => rw [hs] at hf; cases hf
      | some b =>
        have hke := hx.1.eq0 (sameNow_key hs)
        rw [hs] at hf
        unfold Instr.findNow
        rw [← hke, hs]
        cases b with
        | true =>
          simp only [Option.some.injEq] at hf
          subst hf
          exact ⟨_, rfl, .inr ⟨i, e.val, e'.val, e', rfl, rfl, hx.2.1, Nat.le_refl _, by simp, by rw [← hke]; exact hs⟩⟩
        | false =>
          simp only at hf
          obtain ⟨r', h1, h2⟩ := ih hr hf
          refine ⟨r', h1, ?_⟩
          rcases h2 with h2 | ⟨j, v, v', e2, a, b, c, d, f, g⟩
          · exact .inl h2
          · refine .inr ⟨j, v, v', e2, a, b, c, by omega, ?_, g⟩
            rw [show j - i = (j - (i + 1)) + 1 by omega]
            simpa using f
theorem checkKey_run {kd : TypeDesc} {kt : TypeId} {k : Value} (hu : P.underlying kt = some kd) (hk : keyOk kd k = true) (b : Bool) (w : World) : (Instr.checkKey b 10000 kt k).run P w = .ok () w := by
  have : ∀ n, (Instr.checkKey b (n + 1) kt k).run P w = .ok () w := by
    intro n
    unfold keyOk at hk
    split at hk <;> first
      | (cases hk; done)
      | (unfold Instr.checkKey; rw [Sem.run_bind, run_und hu]; rfl)
  exact this 9999
theorem map_of {t kt et : TypeId} (hm : mapT P t = some (kt, et)) : P.underlying t = some (.map kt et) := by
  unfold mapT at hm
  split at hm
  · cases hm; assumption
  · cases hm
theorem lookup_sim (S : Sim G P w0 ρ D h w) {t : TypeId} {x x' k k' v : Value} {ok : Bool} (hx : VR ρ x x') (hk : VR ρ k k') (hv : pLookup P t x k ok h = some v) :
    ∃ v', (Instr.lookup t x' k' ok).run P w = .ok v' w ∧ VR ρ v v' := by
  have tup : ∀ (a a' : Value) (b : Bool), VR ρ a a' → VR ρ (if ok then .tuple #[a, .bool b] else a) (if ok then .tuple #[a', .bool b] else a') := fun a a' b ha => by
    have := (AsR.list (ρ := ρ) (a := #[a, .bool b]) (a' := #[a', .bool b])).2 (.cons ha (.cons (.bool b) .nil))
    cases ok
    · exact ha
    · exact .tuple _ _ this.1 this.2
  unfold pLookup at hv
  split at hv
  · cases hv
  · rename_i kt et hm
    have hmu := map_of hm
    split at hv
    · rename_i kd es hkd hes
      split at hv
      · rename_i hko
        have ek := hk.eq0 (key_plain hko)
        subst ek
        have run1 : ∀ es' : Array MapEntry, EsR ρ es es'.toList → ∃ v', (Instr.findKey kt k es'.toList).run P w = .ok v' w ∧
            (∀ r, findE kd k es 0 = some r → (r = none ∧ v' = none) ∨ ∃ j a a', r = some (j, a) ∧ v' = some (j, a') ∧ VR ρ a a') := by
          intro es' he
          cases hf : findE kd k es 0 with
          | none => rw [hf] at hv; cases hv
          | some r =>
            obtain ⟨r', h1, h2⟩ := find_sim he hf
            refine ⟨r', by simp [Instr.findKey, run_und hkd, h1], fun r0 h0 => ?_⟩
            cases h0
            rcases h2 with h2 | ⟨j, a, a', e', p, q, s, _⟩
            · exact .inl h2
            · exact .inr ⟨j, a, a', p, q, s⟩
        have fin : ∀ es' : Array MapEntry, EsR ρ es es'.toList → ∃ r', (Instr.findKey kt k es'.toList).run P w = .ok r' w ∧
            ((∃ j a', r' = some (j, a') ∧ VR ρ v (if ok then .tuple #[a', .bool true] else a')) ∨ (r' = none ∧ ∃ z, zeroT P et = some z ∧ VR ρ v (if ok then .tuple #[z, .bool false] else z))) := by
          intro es' he
          obtain ⟨r', h1, h2⟩ := run1 es' he
          refine ⟨r', h1, ?_⟩
          split at hv
          · rename_i j a hf
            cases hv
            rcases h2 _ hf with ⟨h3, _⟩ | ⟨j', a1, a', h3, h4, h5⟩
            · cases h3
            · cases h3
              exact .inl ⟨_, _, h4, tup _ _ _ h5⟩
          · rename_i z hf hz
            split at hv
            · rename_i hp
              cases hv
              rcases h2 _ hf with ⟨_, h4⟩ | ⟨j', a1, a', h3, h4, h5⟩
              · exact .inr ⟨h4, z, hz, tup _ _ _ (VR.reflP ρ hp)⟩
              · cases h3
            · cases hv
          · cases hv
        split at hes
        · cases hes
          cases hx
          obtain ⟨r', h1, h2⟩ := fin #[] .nil
          rcases h2 with ⟨j, a', rfl, h3⟩ | ⟨rfl, z, hz, h3⟩
          · exact ⟨_, by simp [Instr.lookup, run_und hmu, checkKey_run hkd hko, h1], h3⟩
          · have h1' : (Instr.findKey kt k []).run P w = .ok none w := h1
            exact ⟨_, by cases ok <;> simp [Instr.lookup, run_und hmu, checkKey_run hkd hko, h1', run_zero hz], h3⟩
        · rename_i r
          split at hes
          · rename_i es0 clk hg
            cases hes
            cases hx with
            | map _ rb hρ =>
              obtain ⟨rb', hρ', hge, es', k1, k2⟩ := S.objAt hρ hg (by simp)
              rw [hρ] at hρ'
              cases hρ'
              obtain ⟨r', h1, h2⟩ := fin es' k2
              have hget : (getObj rb.blk).run P w = .ok (.map es' clk) w := by simp [getObj, Sem.run, k1]
              rcases h2 with ⟨j, a', rfl, h3⟩ | ⟨rfl, z, hz, h3⟩
              · exact ⟨_, by simp [Instr.lookup, run_und hmu, hget, checkKey_run hkd hko, h1], h3⟩
              · exact ⟨_, by cases ok <;> simp [Instr.lookup, run_und hmu, hget, checkKey_run hkd hko, h1, run_zero hz], h3⟩
          · cases hes
        · cases hes
      · cases hv
    · cases hv
theorem len_sim (S : Sim G P w0 ρ D h w) {ts : Array TypeId} {t : TypeId} {x x' v : Value} (hx : VR ρ x x') (hv : pLen P ts x h = some v) :
    ∃ v', (Builtin.len_ ts t #[x']).run P w = .ok v' w ∧ VR ρ v v' := by
  unfold pLen at hv
  cases ht : (ts[0]? : Option TypeId) with
  | none => rw [ht] at hv; simp at hv
  | some t0 =>
    rw [ht] at hv
    simp only [Option.bind_some] at hv
    split at hv
    · cases hx; cases hv; rename_i hu; exact ⟨_, by simp [Builtin.len_, ht, run_und hu]; rfl, .int _ _⟩
    · cases hv; rename_i hu; cases hx <;> exact ⟨_, by simp [Builtin.len_, ht, run_und hu]; rfl, .int _ _⟩
    · cases hx; cases hv; rename_i hu _ _ _; exact ⟨_, by simp [Builtin.len_, ht, run_und hu]; rfl, .int _ _⟩
    · cases hx; cases hv; rename_i hu; exact ⟨_, by simp [Builtin.len_, ht, run_und hu]; rfl, .int _ _⟩
    · rename_i r hu
      split at hv
      · rename_i es clk hg
        cases hv
        cases hx with
        | map _ rb hρ =>
          obtain ⟨rb', hρ', hge, es', k1, k2⟩ := S.objAt hρ hg (by simp)
          rw [hρ] at hρ'
          cases hρ'
          have hget : (getObj rb.blk).run P w = .ok (.map es' clk) w := by simp [getObj, Sem.run, k1]
          have hl := k2.length
          exact ⟨_, by simp [Builtin.len_, ht, run_und hu, hget]; rfl, by rw [hl]; exact .int _ _⟩
      · cases hv
    · cases hv

/-! ### All together -/
theorem nilCheck_sim {o : Oper} {x : Operand} (ho : o.op = .nilCheck x) {ev ev' : Operand → Value} (hx : VR ρ (ev x) (ev' x)) {v : Value} (hv : pNilCheck (ev x) = some v) (w : World) :
    ∃ v', (execOp ev' o).run P w = .ok (.value v') w ∧ VR ρ v v' := by
  unfold pNilCheck at hv
  unfold execOp
  rw [ho]
  simp only
  generalize ev x = a at *
  generalize ev' x = a' at *
  split at hv
  · cases hv; cases hx with | ptr _ a' hr => exact ⟨_, rfl, .ptr _ _ hr⟩
  · cases hv; cases hx with | iface _ _ y hr => exact ⟨_, rfl, .iface _ _ _ hr⟩
  · cases hv
    cases hx with
    | func f f' a b a' b' hf h1 h2 h3 h4 => cases hf; exact ⟨_, rfl, .func _ _ _ _ _ _ (.func _) h1 h2 h3 h4⟩
  · cases hv
    cases hx with
    | func f f' a b a' b' hf h1 h2 h3 h4 => cases hf with | yield _ r hr => exact ⟨_, rfl, .func _ _ _ _ _ _ (.yield _ r hr) h1 h2 h3 h4⟩
  · cases hv
    cases hx with
    | func f f' a b a' b' hf h1 h2 h3 h4 => cases hf; exact ⟨_, rfl, .func _ _ _ _ _ _ (.methodOf _ _) h1 h2 h3 h4⟩
  · cases hv
theorem map_AsR {ev ev' : Operand → Value} {xs : Array Operand} (hE : ∀ x ∈ xs, VR ρ (ev x) (ev' x)) : AsR ρ (xs.map ev) (xs.map ev') := by
  refine ⟨by simp, fun i v v' h1 h2 => ?_⟩
  simp only [Array.getElem?_map, Option.map_eq_some_iff] at h1 h2
  obtain ⟨x, hx, rfl⟩ := h1
  obtain ⟨y, hy, rfl⟩ := h2
  rw [hx] at hy
  cases hy
  exact hE x (Array.mem_of_getElem? hx)
theorem map_PsR {ev ev' : Operand → Value} {xs : List (Nat × Operand)} (hE : ∀ x ∈ xs.map (·.2), VR ρ (ev x) (ev' x)) : PsR ρ (xs.map fun (i, x) => (i, ev x)) (xs.map fun (i, x) => (i, ev' x)) := by
  induction xs with
  | nil => exact .nil
  | cons x xs ih => exact .cons (hE _ (by simp)) (ih fun y hy => hE y (by simp at hy ⊢; exact .inr hy))
theorem map_OR {ev ev' : Operand → Value} {x : Option Operand} (hE : ∀ y ∈ x, VR ρ (ev y) (ev' y)) : OR ρ (x.map ev) (x.map ev') := by
  cases x with
  | none => exact .none
  | some y => exact .some (hE y rfl)
theorem light_sim (S : Sim G P w0 ρ D h w) {o : Oper} {ev ev' : Operand → Value} (hE : ∀ x ∈ o.op.operands, VR ρ (ev x) (ev' x)) {v : Value} (hv : eLight P o ev h = some v) :
    ∃ v', (execOp ev' o).run P w = .ok (.value v') w ∧ VR ρ v v' := by
  obtain ⟨dst, op, type, pos, after, guard⟩ := o
  have lift : ∀ {s : Sem Value}, (∃ v', s.run P w = .ok v' w ∧ VR ρ v v') → ∃ v', (do pure (.value (← s)) : Sem Next).run P w = .ok (.value v') w ∧ VR ρ v v' := by
    rintro s ⟨v', h1, h2⟩
    exact ⟨v', by simp [h1], h2⟩
  cases op <;> simp only [eLight] at hv <;> (try (cases hv; done))
  case move x => cases hv; exact ⟨_, rfl, hE x (by simp [Op.operands])⟩
  case assign x => cases hv; exact ⟨_, rfl, hE x (by simp [Op.operands])⟩
  case pick c a b =>
    have hc := hE c (by simp [Op.operands])
    have ha := hE a (by simp [Op.operands])
    have hb := hE b (by simp [Op.operands])
    simp only [execOp]
    generalize ev c = vc at *
    generalize ev' c = vc' at *
    split at hv
    · cases hv; cases hc; exact ⟨_, by simp [asBool], ha⟩
    · cases hv; cases hc; exact ⟨_, by simp [asBool], hb⟩
    · cases hv
  case load t a => exact lift (load_sim S (hE a (by simp [Op.operands])) hv)
  case nilCheck x => exact nilCheck_sim (x := x) rfl (hE x (by simp [Op.operands])) hv w
  case binOp op t x y ty => exact lift (bin_sim (hE x (by simp [Op.operands])) (hE y (by simp [Op.operands])) hv w)
  case unOp op t x => exact lift (un_sim (hE x (by simp [Op.operands])) hv w)
  case convert s d x => exact lift (conv_sim S (hE x (by simp [Op.operands])) hv)
  case makeInterface t x => exact lift (makeIface_sim (hE x (by simp [Op.operands])) hv w)
  case makeFunc fn first captured =>
    unfold pMakeFunc at hv
    have h1 := map_AsR (ρ := ρ) (ev := ev) (ev' := ev') (xs := first) fun x hx => hE x (by simp [Op.operands, hx])
    have h2 := map_AsR (ρ := ρ) (ev := ev) (ev' := ev') (xs := captured) fun x hx => hE x (by simp [Op.operands, hx])
    split at hv
    · split at hv
      · cases hv; exact ⟨_, by simp [execOp, Instr.makeFunc], .func _ _ _ _ _ _ (.func _) h1.1 h1.2 h2.1 h2.2⟩
      · cases hv
    · split at hv
      · cases hv; exact ⟨_, by simp [execOp, Instr.makeFunc], .func _ _ _ _ _ _ (.methodOf _ _) h1.1 h1.2 h2.1 h2.2⟩
      · cases hv
    · cases hv
  case build t parts =>
    refine lift (build_sim (ps' := parts.map fun (i, x) => (i, ev' x)) ?_ hv w)
    have := map_PsR (ρ := ρ) (ev := ev) (ev' := ev') (xs := parts.toList) fun x hx => hE x (by simpa [Op.operands] using hx)
    simpa using this
  case slice t x lo hi mx =>
    refine lift (slice_sim S (hE x (by simp [Op.operands])) (map_OR fun y hy => hE y ?_) (map_OR fun y hy => hE y ?_) (map_OR fun y hy => hE y ?_) hv)
    all_goals (cases hy; simp [Op.operands])
  case fieldAddr t x f => exact lift (fieldAddr_sim (hE x (by simp [Op.operands])) hv w)
  case field t x f => exact lift (field_sim (hE x (by simp [Op.operands])) hv w)
  case indexAddr t x i => exact lift (indexAddr_sim (hE x (by simp [Op.operands])) (hE i (by simp [Op.operands])) hv w)
  case index t x i => exact lift (index_sim (hE x (by simp [Op.operands])) (hE i (by simp [Op.operands])) hv w)
  case lookup t x i ok => exact lift (lookup_sim S (hE x (by simp [Op.operands])) (hE i (by simp [Op.operands])) hv)
  case typeAssert x xt t ok => exact lift (assert_sim (hE x (by simp [Op.operands])) hv w)
  case extract x i => exact lift (extract_sim (hE x (by simp [Op.operands])) hv w)
  case call c =>
    obtain ⟨callee, args, argTypes⟩ := c
    simp only at hv
    have hargs : ∀ b, callee = .builtin b → AsR ρ (args.map ev) (args.map ev') := fun b hb => map_AsR fun x hx => hE x (by simp [Op.operands, Call.operands, hb, hx])
    have mm : ∀ b mx, callee = .builtin b → pMinMax P mx (args.map ev) = some v → ∃ v', (if mx then Builtin.max_ #[] 0 (args.map ev') else Builtin.min_ #[] 0 (args.map ev')).run P w = .ok v' w ∧ VR ρ v v' := by
      intro b mx hb hv
      have ha := hargs b hb
      unfold pMinMax at hv
      split at hv
      · rename_i k n rest hl
        split at hv
        · rename_i hall
          obtain ⟨h1, h2⟩ := chk_some hv
          have : (args.map ev).toList.all plain0 = true := by
            rw [hl]
            simp only [List.all_cons, plain0, Bool.true_and]
            refine List.all_eq_true.2 fun x hx => ?_
            have := List.all_eq_true.1 hall x hx
            cases x <;> simp_all [plain0]
          have he := LsR.eq0 (AsR.list.1 ha) this
          have he' : args.map ev = args.map ev' := Array.toList_inj.1 he
          rw [← he']
          exact ⟨v, prun_run h1 w, VR.reflP ρ h2⟩
        · cases hv
      · cases hv
    split at hv
    · rename_i x hl
      have hx : args = #[x] := Array.toList_inj.1 (by simpa using hl)
      subst hx
      have := len_sim (t := type) S (hE x (by simp [Op.operands, Call.operands])) hv
      obtain ⟨v', h1, h2⟩ := this
      exact ⟨v', by simp [execOp, resolve, invoke, builtin, h1], h2⟩
    · obtain ⟨v', h1, h2⟩ := mm .max true rfl hv
      have h1' : (Builtin.max_ argTypes type (args.map ev')).run P w = .ok v' w := h1
      exact ⟨v', by simp [execOp, resolve, invoke, builtin, h1'], h2⟩
    · obtain ⟨v', h1, h2⟩ := mm .min false rfl hv
      have h1' : (Builtin.min_ argTypes type (args.map ev')).run P w = .ok v' w := h1
      exact ⟨v', by simp [execOp, resolve, invoke, builtin, h1'], h2⟩
    · cases hv
end Go.Proofs.Ev
