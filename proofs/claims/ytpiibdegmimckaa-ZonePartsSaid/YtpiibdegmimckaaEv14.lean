/- Code, functions, rounds: what the evaluator comes to, every run comes to. -/
import Derived.Test.YtpiibdegmimckaaEv13
set_option linter.unusedVariables false
set_option linter.unusedSimpArgs false
namespace Go.Proofs.Ev
open Go Go.RowKit

/-! ### 1. Code that the evaluator may be asked of -/
def goodC (P : Program) : Code → Bool
  | .region _ ops draw => ops.toList.all okOper && (!draw || okDraws P ops)
  | .seq x y => goodC P x && goodC P y
  | .cond c x y => okOperand c && goodC P x && goodC P y
  | .block _ c | .loop c | .scope c => goodC P c
  | .rangeFunc g _ as bd => okOperand g && goodC P as && goodC P bd
  | .skip | .ret | .exit _ | .label _ => true
  | .goto _ | .refuse _ => false
abbrev GC (P : Program) : Code → Prop := fun c => goodC P c = true
variable {P : Program} {w0 : World} {ρ : Ren} {D : List Mk} {h : AH} {w : World}

/-! ### 2. Rules of code -/
section rules
variable {F : Fence} {n : Nat} {Q : Exit → Act → World → Prop} {a : Act}
theorem wpIn_scope {c : Code} (h : c.wpIn F n P Q a w) (hg : ∀ l a w, ¬ Q (.goto l) a w) : (Code.scope c).wpIn F n P Q a w := by
  intro b k cs hro hb hr
  have h0 : (lone (b.atR a (.code (.scope c) :: k)) cs w).fenced P F := fenced_calm hb hr rfl
  have s0 : step P (lone (b.atR a (.code (.scope c) :: k)) cs w) = .next (lone (b.atR a (.code c :: .inScope c :: k)) cs w) :=
    step_lone_go (by simp [stepG, stepG.exec, Frame.atR])
  obtain ⟨e, a₁, w₁, hq, harr⟩ := h b (.inScope c :: k) cs hro hb hr
  have hx : ∀ id, exitTo id (.inScope c :: k) = exitTo id k := fun id => by simp [exitTo]
  cases e with
  | normal =>
    refine ⟨.normal, a₁, w₁, hq, .head h0 s0 (StepsIn.trans harr (.one (fenced_calm hb hr rfl) ?_))⟩
    exact step_lone_go (by simp [stepG, stepG.exec, Frame.atR])
  | exit id =>
    exact ⟨.exit id, a₁, w₁, hq, fun k' hk => .head h0 s0 (harr.1 k' (by rw [hx]; exact hk)), fun hr' hk => let ⟨k₁, h1, h2⟩ := harr.2 hr' (by rw [hx]; exact hk); ⟨k₁, h1, .head h0 s0 h2⟩⟩
  | goto l => exact absurd hq (hg _ _ _)
  | ret => exact ⟨_, a₁, w₁, hq, .of_steps (.one h0 s0) harr⟩
  | panic ch => exact ⟨_, a₁, w₁, hq, .of_steps (.one h0 s0) harr⟩
  | outgrown => exact ⟨_, a₁, w₁, hq, .of_steps (b := b) (k := k) (cs := cs) (e := .outgrown) (.one h0 s0) harr⟩
theorem wpIn_loop_ghost {c : Code} (I : Nat → Act → World → Prop) {k0 : Nat} (h₀ : I k0 a w)
    (round : ∀ j a w, I j a w → c.wpIn F n P (Exit.then (fun a' w' => ∃ j', j' < j ∧ I j' a' w') Q) a w) : (Code.loop c).wpIn F n P Q a w := by
  intro b k cs hro hb hr
  have key : ∀ j a w, I j a w →
      ∃ e a' w', Q e a' w' ∧ ArrivesIn (Machine.fenced P F) P (lone (b.atR a (.code c :: .inLoop c :: k)) cs w) b k cs e a' w' := by
    intro j
    induction j using Nat.strongRecOn with
    | _ j ih =>
      intro a w hI
      obtain ⟨e, a₁, w₁, hq, harr⟩ := round j a w hI b (.inLoop c :: k) cs hro hb hr
      cases e with
      | normal =>
        obtain ⟨j', hlt, hI₁⟩ := hq
        obtain ⟨e₂, a₂, w₂, hq₂, harr₂⟩ := ih j' hlt a₁ w₁ hI₁
        exact ⟨e₂, a₂, w₂, hq₂, .of_steps (StepsIn.trans harr (.one (fenced_calm hb hr rfl) stepR_inLoop)) harr₂⟩
      | exit id => exact ⟨_, a₁, w₁, hq, .pass (x := .inLoop c) rfl (fun _ _ => .inl (by simp)) harr⟩
      | goto l => exact ⟨_, a₁, w₁, hq, .pass (x := .inLoop c) rfl (fun _ _ => .inl (by simp)) harr⟩
      | ret => exact ⟨_, a₁, w₁, hq, .pass (x := .inLoop c) rfl (fun _ _ => .inl (by simp)) harr⟩
      | panic ch => exact ⟨_, a₁, w₁, hq, .pass (x := .inLoop c) rfl (fun _ _ => .inl (by simp)) harr⟩
      | outgrown => exact ⟨_, a₁, w₁, hq, .pass (x := .inLoop c) rfl (fun _ _ => .inl (by simp)) harr⟩
  obtain ⟨e, a', w', hq, harr⟩ := key k0 a w h₀
  exact ⟨e, a', w', hq, .of_steps (.one (fenced_calm hb hr rfl) stepR_loop) harr⟩
end rules

/-! ### 3. Code -/
def XE.to : XE → Exit
  | .normal => .normal
  | .ret => .ret
  | .exit id => .exit id
def markOf (r : Nat) : Deferred := { target := .collected r, args := #[] }
/-- Where code leaves. -/
def Post (P : Program) (w0 : World) (D : List Mk) (ρ : Ren) (x : XE) (a2 : Act) (h2 : AH) : Exit → Act → World → Prop :=
  fun e a2' w' => e = x.to ∧ ∃ (ρ' : Ren) (ds : List Nat), ρ.le ρ' ∧ AsR ρ' a2.tmps a2'.tmps ∧ a2'.defers = ds.map markOf ∧ Sim (GC P) P w0 ρ' (List.map Mk.d ds ++ D) h2 w'
theorem forget_AsR {a a' : Act} (ha : AsR ρ a.tmps a'.tmps) (ts : List Tmp) : AsR ρ (forget ts a).tmps a'.tmps := by
  unfold forget
  have : ∀ (ts : List Tmp) (t : Array Value), AsR ρ t a'.tmps → AsR ρ (ts.foldl (fun t i => t.setIfInBounds i unk) t) a'.tmps := by
    intro ts
    induction ts with
    | nil => intro t ht; exact ht
    | cons i ts ih =>
      intro t ht
      refine ih _ ⟨by simp [ht.1], fun j v v' h1 h2 => ?_⟩
      rw [Array.getElem?_setIfInBounds] at h1
      by_cases hij : i = j
      · rw [if_pos hij] at h1
        split at h1
        · cases h1; exact .unk _
        · cases h1
      · rw [if_neg hij] at h1
        exact ht.2 j v v' h1 h2
  exact this ts a.tmps ha
theorem run_callFunc_body {f : FuncId} {fn : Func} {c : Code} (hf : P.funcs[f]? = some fn) (hb : fn.body = some c) (hn : (fn.name == "runtime.NumGoroutine") = false) (as : Array Value) (w : World) :
    (callFunc f as).run P w = .ok (.enter f as) w := by
  unfold callFunc
  have hn' : ¬ fn.name = "runtime.NumGoroutine" := by simpa using hn
  simp [hf, hb, hn']
structure EnvOK (E : Env) : Prop where
  mix : E.P.follows .mixedOrders = true
  code : ∀ f, E.L f = true → ∃ fn c, E.P.funcs[f]? = some fn ∧ fn.body = some c ∧ goodC E.P c = true ∧ (fn.name == "runtime.NumGoroutine") = false
  orac : ∀ f g, E.O f = some g → (∃ fn c, E.P.funcs[f]? = some fn ∧ fn.body = some c ∧ (fn.name == "runtime.NumGoroutine") = false) ∧
    ∀ args h v h2, g args h = some (v, h2) → ∀ w0 ρ D w args', Sim (GC E.P) E.P w0 ρ D h w → AsR ρ args args' → CallsIn Fence.wide 0 E.P f args' w (CallPost (GC E.P) E.P w0 ρ D v h2)
  ext : ∀ f g, E.X f = some g → ∀ args v, g args = some v → ∀ ρ args', AsR ρ args args' → ∀ w, ∃ v', (callFunc f args').run E.P w = .ok (.value v') w ∧ VR ρ v v'
variable {E : Env}
theorem EnvOK.body (hE : EnvOK E) {f : FuncId} (h : (E.L f || (E.O f).isSome) = true) : ∃ fn c, E.P.funcs[f]? = some fn ∧ fn.body = some c ∧ (fn.name == "runtime.NumGoroutine") = false := by
  rcases Bool.or_eq_true_iff.1 h with h | h
  · obtain ⟨fn, c, h1, h2, _, h3⟩ := hE.code f h
    exact ⟨fn, c, h1, h2, h3⟩
  · obtain ⟨g, hg⟩ := Option.isSome_iff_exists.1 h
    exact (hE.orac f g hg).1

theorem all_ops {ops : Array Oper} (h : ops.toList.all okOper = true) : ∀ (i : Nat) (o : Oper), ops[i]? = some o → okOper o = true := fun i o hi => by
  have := Array.mem_of_getElem? hi
  exact List.all_eq_true.1 h o (by simpa using this)
theorem code_sim (hE : EnvOK E) {inv : Inv} (hI : InvOK (GC E.P) E.P w0 inv) {f : FuncId} {rd : Bool} {k : Nat} {F : Fence} (hF : FenceOK F) (hrd : rd = false → F = Fence.wide) :
    ∀ (c : Code), goodC E.P c = true → ∀ (a : Act) (h : AH) (x : XE) (a2 : Act) (h2 : AH), eCode E f rd inv k c a h = some (x, a2, h2) →
      ∀ (ρ : Ren) (D : List Mk) (ds : List Nat) (w : World) (a' : Act), Sim (GC E.P) E.P w0 ρ (List.map Mk.d ds ++ D) h w → AsR ρ a.tmps a'.tmps → a'.defers = ds.map markOf → c.wpIn F 0 E.P (Post E.P w0 D ρ x a2 h2) a' w := by
  intro c
  have shift : ∀ {D : List Mk} {ρ ρ1 : Ren} {x : XE} {a2 : Act} {h2 : AH} {e : Exit} {c : Act} {w : World}, ρ.le ρ1 → Post E.P w0 D ρ1 x a2 h2 e c w → Post E.P w0 D ρ x a2 h2 e c w := by
    rintro D ρ ρ1 x a2 h2 e c w hle ⟨he, ρ', ds, q1, q2⟩
    exact ⟨he, ρ', ds, Ren.le_trans hle q1, q2⟩
  induction c with
  | skip =>
    intro hg a h x a2 h2 he ρ D ds w a' S ha hd
    simp only [eCode, Option.some.injEq, Prod.mk.injEq] at he
    obtain ⟨rfl, rfl, rfl⟩ := he
    exact wpIn_skip ⟨rfl, ρ, ds, Ren.le_refl _, ha, hd, S⟩
  | label l =>
    intro hg a h x a2 h2 he ρ D ds w a' S ha hd
    simp only [eCode, Option.some.injEq, Prod.mk.injEq] at he
    obtain ⟨rfl, rfl, rfl⟩ := he
    exact wpIn_label ⟨rfl, ρ, ds, Ren.le_refl _, ha, hd, S⟩
  | ret =>
    intro hg a h x a2 h2 he ρ D ds w a' S ha hd
    simp only [eCode, Option.some.injEq, Prod.mk.injEq] at he
    obtain ⟨rfl, rfl, rfl⟩ := he
    exact wpIn_ret ⟨rfl, ρ, ds, Ren.le_refl _, ha, hd, S⟩
  | exit id =>
    intro hg a h x a2 h2 he ρ D ds w a' S ha hd
    simp only [eCode, Option.some.injEq, Prod.mk.injEq] at he
    obtain ⟨rfl, rfl, rfl⟩ := he
    exact wpIn_exit ⟨rfl, ρ, ds, Ren.le_refl _, ha, hd, S⟩
  | goto l => intro hg; cases hg
  | refuse s => intro hg; cases hg
  | seq c1 c2 ih1 ih2 =>
    intro hg a h x a2 h2 he ρ D ds w a' S ha hd
    simp only [goodC, Bool.and_eq_true] at hg
    simp only [eCode] at he
    cases h1 : eCode E f rd inv k c1 a h with
    | none => rw [h1] at he; cases he
    | some r =>
      obtain ⟨x1, a1, hh1⟩ := r
      rw [h1] at he
      refine wpIn_seq (wpIn_mono (ih1 hg.1 _ _ _ _ _ h1 ρ D ds w a' S ha hd) fun e c w1 hq => ?_)
      obtain ⟨rfl, ρ1, ds1, q1, q2, q3, q4⟩ := hq
      cases x1 with
      | normal => exact wpIn_mono (ih2 hg.2 _ _ _ _ _ he ρ1 D ds1 w1 c q4 q2 q3) fun e c w hp => shift q1 hp
      | ret =>
        simp only [Option.some.injEq, Prod.mk.injEq] at he
        obtain ⟨rfl, rfl, rfl⟩ := he
        exact ⟨rfl, ρ1, ds1, q1, q2, q3, q4⟩
      | exit id =>
        simp only [Option.some.injEq, Prod.mk.injEq] at he
        obtain ⟨rfl, rfl, rfl⟩ := he
        exact ⟨rfl, ρ1, ds1, q1, q2, q3, q4⟩
  | cond c x1 y1 ih1 ih2 =>
    intro hg a h x a2 h2 he ρ D ds w a' S ha hd
    simp only [goodC, Bool.and_eq_true] at hg
    simp only [eCode] at he
    have hc := eval_sim ha hg.1.1
    split at he
    · rename_i hv
      rw [hv] at hc
      generalize hv' : a'.eval c = vc at hc
      cases hc
      exact wpIn_cond_true hv' (ih1 hg.1.2 _ _ _ _ _ he ρ D ds w a' S ha hd)
    · rename_i hv
      rw [hv] at hc
      generalize hv' : a'.eval c = vc at hc
      cases hc
      exact wpIn_cond_false hv' (ih2 hg.2 _ _ _ _ _ he ρ D ds w a' S ha hd)
    · cases he
  | block id c ih =>
    intro hg a h x a2 h2 he ρ D ds w a' S ha hd
    simp only [eCode] at he
    cases h1 : eCode E f rd inv k c a h with
    | none => rw [h1] at he; cases he
    | some r =>
      obtain ⟨x1, a1, hh1⟩ := r
      rw [h1] at he
      refine wpIn_block (wpIn_mono (ih hg _ _ _ _ _ h1 ρ D ds w a' S ha hd) fun e c w1 hq => ?_)
      obtain ⟨rfl, q⟩ := hq
      cases x1 with
      | normal =>
        simp only [Option.some.injEq, Prod.mk.injEq] at he
        obtain ⟨rfl, rfl, rfl⟩ := he
        exact ⟨rfl, q⟩
      | ret =>
        simp only [Option.some.injEq, Prod.mk.injEq] at he
        obtain ⟨rfl, rfl, rfl⟩ := he
        exact ⟨rfl, q⟩
      | exit id' =>
        simp only at he
        simp only [XE.to, Exit.inBlock]
        split at he
        · rename_i hid
          simp only [Option.some.injEq, Prod.mk.injEq] at he
          obtain ⟨rfl, rfl, rfl⟩ := he
          rw [if_pos hid]
          exact ⟨rfl, q⟩
        · rename_i hid
          simp only [Option.some.injEq, Prod.mk.injEq] at he
          obtain ⟨rfl, rfl, rfl⟩ := he
          rw [if_neg hid]
          exact ⟨rfl, q⟩
  | scope c ih =>
    intro hg a h x a2 h2 he ρ D ds w a' S ha hd
    refine wpIn_scope (ih hg _ _ _ _ _ he ρ D ds w a' S ha hd) fun l a w hq => ?_
    have := hq.1
    cases x <;> cases this
  | loop c ih =>
    intro hg a h x a2 h2 he ρ D ds w a' S ha hd
    simp only [eCode] at he
    refine wpIn_loop_ghost (fun j c' w' => ∃ a1 h1 ρ1 ds1, ρ.le ρ1 ∧ Sim (GC E.P) E.P w0 ρ1 (List.map Mk.d ds1 ++ D) h1 w' ∧ AsR ρ1 a1.tmps c'.tmps ∧ c'.defers = ds1.map markOf ∧
      eLoop (eCode E f rd inv k c) j a1 h1 = some (x, a2, h2)) (k0 := k) ⟨a, h, ρ, ds, Ren.le_refl _, S, ha, hd, he⟩ ?_
    rintro j c' w' ⟨a1, h1, ρ1, ds1, q1, q2, q3, q4, q5⟩
    cases j with
    | zero => cases q5
    | succ j =>
      simp only [eLoop] at q5
      cases hb : eCode E f rd inv k c a1 h1 with
      | none => rw [hb] at q5; cases q5
      | some r =>
        obtain ⟨x1, a3, h3⟩ := r
        rw [hb] at q5
        refine wpIn_mono (ih hg _ _ _ _ _ hb ρ1 D ds1 w' c' q2 q3 q4) fun e c2 w2 hq => ?_
        obtain ⟨rfl, ρ2, ds2, z1, z2, z3, z4⟩ := hq
        cases x1 with
        | normal => exact ⟨j, Nat.lt_succ_self _, a3, h3, ρ2, ds2, Ren.le_trans q1 z1, z4, z2, z3, q5⟩
        | ret =>
          simp only [Option.some.injEq, Prod.mk.injEq] at q5
          obtain ⟨rfl, rfl, rfl⟩ := q5
          exact ⟨rfl, ρ2, ds2, Ren.le_trans q1 z1, z2, z3, z4⟩
        | exit id =>
          simp only [Option.some.injEq, Prod.mk.injEq] at q5
          obtain ⟨rfl, rfl, rfl⟩ := q5
          exact ⟨rfl, ρ2, ds2, Ren.le_trans q1 z1, z2, z3, z4⟩
  | region id ops draw =>
    intro hg a h x a2 h2 he ρ D ds w a' S ha hd
    simp only [goodC, Bool.and_eq_true, Bool.or_eq_true, Bool.not_eq_true'] at hg
    simp only [eCode] at he
    cases hr : eRegion E.P inv ops draw a h with
    | none => rw [hr] at he; cases he
    | some r =>
      obtain ⟨a1, h1⟩ := r
      rw [hr] at he
      simp only [Option.map_some, Option.some.injEq, Prod.mk.injEq] at he
      obtain ⟨rfl, rfl, rfl⟩ := he
      have hops := all_ops hg.1
      have fin : ∀ ρ' c' w', ρ.le ρ' → AsR ρ' a1.tmps c'.tmps → c'.defers = a'.defers → Sim (GC E.P) E.P w0 ρ' (List.map Mk.d ds ++ D) h1 w' → Post E.P w0 D ρ .normal (forget (E.FT f id) a1) h1 .normal c' w' :=
        fun ρ' c' w' q1 q2 q3 q4 => ⟨rfl, ρ', ds, q1, forget_AsR q2 _, q3.trans hd, q4⟩
      unfold eRegion at hr
      cases draw with
      | false =>
        simp only [Bool.false_eq_true, if_false] at hr
        exact wpIn_region (ops_sim hI hF hops _ S ha hr fin)
      | true =>
        simp only [if_true] at hr
        cases ht : eTrace E.P inv (drawOps E.P ops) (List.range (drawOps E.P ops).size) a h with
        | none => rw [ht] at hr; cases hr
        | some t =>
          obtain ⟨ts, a3, h3⟩ := t
          rw [ht] at hr
          simp only at hr
          split at hr
          · rename_i hcalm
            simp only [Option.some.injEq, Prod.mk.injEq] at hr
            obtain ⟨rfl, rfl⟩ := hr
            exact region_draw_sim hI hF hE.mix (by simpa using hg.2) hops S ha ht hcalm fin
          · cases hr
  | rangeFunc g ps as bd ih1 ih2 =>
    intro hg a h x a2 h2 he ρ D ds w a' S ha hd
    simp only [goodC, Bool.and_eq_true] at hg
    simp only [eCode] at he
    split at he
    · cases he
    · rename_i hnrd
      simp only [Bool.or_eq_true, Bool.not_eq_true', not_or, Bool.not_eq_true, Bool.not_eq_false] at hnrd
      obtain ⟨hnrd, hent⟩ := hnrd
      have hFw := hrd hnrd
      subst hFw
      unfold eRange at he
      split at he
      case h_2 => cases he
      rename_i fn first captured hgv
      have hgs := eval_sim ha hg.1.1
      rw [hgv] at hgs
      generalize hgv' : a'.eval g = vg at hgs
      cases hgs with
      | func _ fn' _ _ first' captured' p1 p2 p3 p4 p5 =>
        cases p1
        let r : RB := ⟨w.heap.size + 1, 0, 0, 0, 0⟩
        have S1 := S.allocDefers
        have hsz1 : (w.alloc (.deferred (some []))).heap.size = w.heap.size + 1 := by simp
        have hle1 : ρ.le (ρ.ext h.n r) := ext_le S r
        have S2 : ∀ fid, Sim (GC E.P) E.P w0 (ρ.ext h.n r) (List.map Mk.d (w.heap.size :: ds) ++ D) (h.alloc (.loop .ready none f a.tmps ps as bd))
            ((w.alloc (.deferred (some []))).alloc (.loop { state := .ready, pending := none, fn := fid, tmps := a'.tmps, params := ps, assign := as, body := bd, defers := w.heap.size })) := fun fid => by
          have := Sim.alloc S1 (.loop .ready none f a.tmps ps as bd) (.loop { state := .ready, pending := none, fn := fid, tmps := a'.tmps, params := ps, assign := as, body := bd, defers := w.heap.size }) r (by rw [hsz1])
            ⟨by have := S.lt; show _ ≤ w.heap.size + 1; omega, hg.1.2, hg.2, fid, a'.tmps, w.heap.size, by have := push_new (w.alloc (.deferred (some []))) (.loop { state := .ready, pending := none, fn := fid, tmps := a'.tmps, params := ps, assign := as, body := bd, defers := w.heap.size }); rw [hsz1] at this; exact this, ha.mono hle1⟩
          exact this
        cases hcall : inv (.func fn) captured (first ++ #[.func (.yield h.n) #[] #[]]) (h.alloc (.loop .ready none f a.tmps ps as bd)) with
        | none => rw [hcall] at he; cases he
        | some q =>
          obtain ⟨v0, h3⟩ := q
          rw [hcall] at he
          simp only at he
          refine wpIn_rangeFunc fun fid _ => ?_
          have hyl : VR (ρ.ext h.n r) (.func (.yield h.n) #[] #[]) (.func (.yield r.blk) #[] #[]) :=
            .func _ _ _ _ _ _ (.yield h.n r (ext_new _ _ _)) rfl (fun i v v' h1 => by simp at h1) rfl (fun i v v' h1 => by simp at h1)
          have hargs : AsR (ρ.ext h.n r) (first ++ #[.func (.yield h.n) #[] #[]]) (first' ++ #[.func (.yield r.blk) #[] #[]]) :=
            AsR.append (AsR.mono hle1 ⟨p2, p3⟩) (AsR.list.2 (.cons hyl .nil))
          obtain ⟨nx, c1, c2⟩ := hI _ _ _ _ _ _ hcall _ _ _ (.func fn) captured' _ (S2 fid) (.func fn) (AsR.mono hle1 ⟨p4, p5⟩) hargs
          have c2' : ∃ f2 as2, nx = .enter f2 as2 ∧ CallsIn Fence.wide 0 E.P f2 as2 ((w.alloc (.deferred (some []))).alloc (.loop { state := .ready, pending := none, fn := fid, tmps := a'.tmps, params := ps, assign := as, body := bd, defers := w.heap.size })) (CallPost (GC E.P) E.P w0 (ρ.ext h.n r) (List.map Mk.d (w.heap.size :: ds) ++ D) v0 h3) := by
            rcases c2 with c2 | ⟨l, _, _, _, _, c2, _⟩ | ⟨v', rfl, _, _⟩
            · exact c2
            · cases c2
            · exfalso
              rw [hgv] at hent
              simp only [Env.enters, Bool.and_eq_true] at hent
              obtain ⟨g1, g2, k1, k2, k3⟩ := hE.body hent.1
              have k4 := run_callFunc_body k1 k2 k3 ((first' ++ #[.func (.yield r.blk) #[] #[]]) ++ captured') ((w.alloc (.deferred (some []))).alloc (.loop { state := .ready, pending := none, fn := fid, tmps := a'.tmps, params := ps, assign := as, body := bd, defers := w.heap.size }))
              have k5 : (callFunc fn ((first' ++ #[.func (.yield r.blk) #[] #[]]) ++ captured')).run E.P ((w.alloc (.deferred (some []))).alloc (.loop { state := .ready, pending := none, fn := fid, tmps := a'.tmps, params := ps, assign := as, body := bd, defers := w.heap.size })) = _ := c1
              rw [k4] at k5
              cases k5
          obtain ⟨f2, as2, rfl, c3⟩ := c2'
          let W2 : World := (w.alloc (.deferred (some []))).alloc (.loop { state := .ready, pending := none, fn := fid, tmps := a'.tmps, params := ps, assign := as, body := bd, defers := w.heap.size })
          refine ⟨w.heap.size + 1, [markOf w.heap.size], W2, { target := .fn (.func fn) captured', args := first' ++ #[.func (.yield (w.heap.size + 1)) #[] #[]] }, W2, f2, as2, W2, ?_, ?_, fun _ _ => trivial, c1, (fun hx => by cases hx), ?_⟩
          · show (Instr.enterLoop fid a'.tmps ps as bd none).run E.P w = _
            simp only [Instr.enterLoop, Sem.run_bind, run_newObj, Result.andThen_ok, Sem.run_pure]
            rw [Array.size_push]
            rfl
          · have hev : a'.eval g = .func (.func fn) first' captured' := hgv'
            have hco : ∀ v, a'.eval (.const v) = v := fun v => rfl
            simp only [resolve, rangeCall, hev, Deferred.ofValue, Sem.run_pure, List.map_toArray, List.map_cons, List.map_nil, hco]
          · refine c3.mono fun e w3 hq => ?_
            obtain ⟨ρ3, v3, rfl, z1, z2, z3⟩ := hq
            cases hgl : h3.get h.n with
            | none => rw [hgl] at he; cases he
            | some ol =>
              rw [hgl] at he
              cases ol with
              | loop st pend f' ts ps' as' bd' =>
                simp only at he
                split at he
                · cases he
                · rename_i hbusy
                  have hr3 : ρ3 h.n = some r := z1 _ _ (ext_new _ _ _)
                  obtain ⟨r', y1, y2⟩ := z3.objAt hr3 hgl (by simp)
                  rw [hr3] at y1
                  cases y1
                  obtain ⟨y2, y3, y4, f3, ts3, d3, y5, y6⟩ := y2
                  have hlt : r.blk < w3.heap.size := (z3.dom _ _ hr3).2
                  have S4 := Sim.setObj (o1 := .loop .exhausted pend f' ts ps' as' bd') (x := .loop { state := .exhausted, pending := pend, fn := f3, tmps := ts3, params := ps', assign := as', body := bd', defers := d3 }) z3 hgl hr3 rfl rfl rfl rfl
                    ⟨y2, y3, y4, f3, ts3, d3, by show (w3.heap.setIfInBounds _ _)[_]? = _; rw [Array.getElem?_setIfInBounds_self_of_lt hlt], y6⟩
                  have hend : (Instr.endLoop (w.heap.size + 1)).run E.P w3 = .ok pend { w3 with heap := w3.heap.setIfInBounds (w.heap.size + 1) (.loop { state := .exhausted, pending := pend, fn := f3, tmps := ts3, params := ps', assign := as', body := bd', defers := d3 }) } := by
                    have k1 : w3.heap[w.heap.size + 1]? = some (.loop { state := st, pending := pend, fn := f3, tmps := ts3, params := ps', assign := as', body := bd', defers := d3 }) := y5
                    have hb2 : (st == .busy) = false := by cases st <;> simp_all
                    have hb3 : ¬ st = .busy := by cases st <;> simp_all
                    simp [Instr.endLoop, Instr.getLoop, getObj, setObj, Sem.run, k1, hb2, hb3]
                  have P1 : ∀ x2, x2.to = x.to → (x2, a, h3.set h.n (.loop .exhausted pend f' ts ps' as' bd')) = (x, a2, h2) → Post E.P w0 D ρ x a2 h2 x.to { a' with defers := markOf w.heap.size :: a'.defers } { w3 with heap := w3.heap.setIfInBounds (w.heap.size + 1) (.loop { state := .exhausted, pending := pend, fn := f3, tmps := ts3, params := ps', assign := as', body := bd', defers := d3 }) } := by
                    intro x2 _ hx2
                    cases hx2
                    exact ⟨rfl, ρ3, w.heap.size :: ds, Ren.le_trans hle1 z1, ha.mono (Ren.le_trans hle1 z1), by rw [hd]; rfl, S4⟩
                  refine ⟨pend, _, hend, ?_⟩
                  split at he
                  · cases he; exact P1 .normal rfl rfl
                  · split at he
                    · cases he; exact wpIn_ret (P1 .ret rfl rfl)
                    · cases he
                  · split at he
                    · cases he; exact wpIn_exit (P1 (.exit _) rfl rfl)
                    · cases he
                  · cases he
              | _ => cases he
end Go.Proofs.Ev
