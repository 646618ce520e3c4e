/- One operation; a region whose order is the text's. -/
import Derived.Test.YtpiibdegmimckaaEv10
set_option linter.unusedVariables false
set_option linter.unusedSimpArgs false
namespace Go.Proofs.Ev
open Go Go.RowKit
variable {G : Code → Prop} {P : Program} {w0 : World} {ρ : Ren} {D : List Mk} {h : AH} {w : World}

/-- What a call leads to, and what it comes to. -/
def CallPost (G : Code → Prop) (P : Program) (w0 : World) (ρ : Ren) (D : List Mk) (v : Value) (h2 : AH) : Ending → World → Prop :=
  fun e w' => ∃ ρ' v', e = .returned v' ∧ ρ.le ρ' ∧ VR ρ' v v' ∧ Sim G P w0 ρ' D h2 w'
def Leads (G : Code → Prop) (P : Program) (w0 : World) (ρ : Ren) (D : List Mk) (w : World) (fn : Fn) (cap args : Array Value) (v : Value) (h2 : AH) : Prop :=
  ∃ nx, (invoke (.fn fn cap) args).run P w = .ok nx w ∧
    ((∃ f as, nx = .enter f as ∧ CallsIn Fence.wide 0 P f as w (CallPost G P w0 ρ D v h2)) ∨
     (∃ l f ts as bd, fn = .yield l ∧ nx = .round l f ts as bd ∧ RoundIn Fence.wide 0 P l f ts as bd w (CallPost G P w0 ρ D v h2)) ∨
     (∃ v', nx = .value v' ∧ VR ρ v v' ∧ Sim G P w0 ρ D h2 w))
def InvOK (G : Code → Prop) (P : Program) (w0 : World) (inv : Inv) : Prop :=
  ∀ fn cap args h v h2, inv fn cap args h = some (v, h2) → ∀ ρ D w fn' cap' args', Sim G P w0 ρ D h w → FnR ρ fn fn' → AsR ρ cap cap' → AsR ρ args args' →
    Leads G P w0 ρ D w fn' cap' args' v h2
/-- The fences in which code is walked: the wide one, and it in a round. -/
def FenceOK (F : Fence) : Prop := ∃ r, F = { Fence.wide with round := r }
theorem FenceOK.wide : FenceOK Fence.wide := ⟨none, rfl⟩
theorem FenceOK.round (l : Nat) : FenceOK (Fence.wide.inRound l) := ⟨some l, rfl⟩
theorem FenceOK.fn {F : Fence} (hF : FenceOK F) (f : FuncId) : F.fn f := by obtain ⟨r, rfl⟩ := hF; trivial
theorem FenceOK.depth {F : Fence} (hF : FenceOK F) : F.depth.isSome = true → 1 ≤ 0 := by obtain ⟨r, rfl⟩ := hF; intro h; cases h

theorem AsR.append {a a' b b' : Array Value} (h1 : AsR ρ a a') (h2 : AsR ρ b b') : AsR ρ (a ++ b) (a' ++ b') := by
  have := (AsR.list.1 h1).append (AsR.list.1 h2)
  exact AsR.list.2 (by simpa using this)

theorem op_sim {inv : Inv} (hI : InvOK G P w0 inv) {F : Fence} (hF : FenceOK F) (S : Sim G P w0 ρ D h w) {o : Oper} {ev : Operand → Value} {a' : Act} (hE : ∀ x ∈ o.op.operands, VR ρ (ev x) (a'.eval x)) {v : Value} {h2 : AH}
    (hv : eOp P inv o ev h = some (v, h2)) {next : Act → World → Prop} {Q : Exit → Act → World → Prop}
    (hnext : ∀ ρ' v' w', ρ.le ρ' → VR ρ' v v' → Sim G P w0 ρ' D h2 w' → next (a'.put o.dst v') w') : o.wpIn F 0 P a' w next Q := by
  have nodefer : ∀ c, o.op ≠ .defer c := by
    intro c hc
    unfold eOp at hv
    split at hv
    · unfold eLight at hv; rw [hc] at hv; cases hv
    · unfold eHeavy at hv; rw [hc] at hv; cases hv
  refine ⟨fun f _ => hF.fn f, ?_⟩
  have hsem : Oper.semAt F.round a'.eval o = execOp a'.eval o := by
    cases F.round with
    | none => rfl
    | some l => exact Oper.semAt_some l _ o nodefer
  rw [hsem]
  -- an operation that makes a value
  have does : ∀ s : Sem Value, execOp a'.eval o = (do pure (.value (← s))) → Does G P w0 ρ D w s v h2 → o.uponIn F 0 P a' next Q ((execOp a'.eval o).run P w) := by
    rintro s hs ⟨ρ', v', w', k1, k2, k3, k4⟩
    rw [hs]
    simp only [Sem.run_bind, k1, Result.andThen_ok, Sem.run_pure, Oper.uponIn_value]
    exact hnext _ _ _ k2 k3 k4
  have doesU : ∀ s : Sem Unit, execOp a'.eval o = (do s; pure .skip) → v = unk → (∃ w', s.run P w = .ok () w' ∧ Sim G P w0 ρ D h2 w') → o.uponIn F 0 P a' next Q ((execOp a'.eval o).run P w) := by
    rintro s hs rfl ⟨w', k1, k4⟩
    rw [hs]
    simp only [Sem.run_bind, k1, Result.andThen_ok, Sem.run_pure, Oper.uponIn_skip]
    exact hnext _ _ _ (Ren.le_refl _) (.unk _) k4
  unfold eOp at hv
  split at hv
  · cases hl : eLight P o ev h with
    | none => rw [hl] at hv; cases hv
    | some x =>
      rw [hl] at hv
      cases hv
      obtain ⟨v', k1, k2⟩ := light_sim S hE hl
      rw [k1, Oper.uponIn_value]
      exact hnext _ _ _ (Ren.le_refl _) k2 S
  · rename_i hnl
    obtain ⟨dst, op, type, pos, after, guard⟩ := o
    cases op <;> simp only [eHeavy] at hv <;> (try (cases hv; done))
    case alloc t => exact does _ rfl (alloc_sim S hv)
    case box t x => exact does _ rfl (box_sim S (hE x (by simp [Op.operands])) hv)
    case buildSlice t n parts =>
      have he : execOp a'.eval ⟨dst, .buildSlice t n parts, type, pos, after, guard⟩ = (do pure (.value (← Instr.buildSlice t n (parts.map fun p => (p.1, a'.eval p.2))))) :=
        congrArg (fun ps => (do pure (Next.value (← Instr.buildSlice t n ps)) : Sem Next)) (Array.map_congr_left fun ⟨i, x⟩ _ => rfl)
      refine does _ he ?_
      refine buildSlice_sim S ?_ hv
      have := map_PsR (ρ := ρ) (ev := ev) (ev' := a'.eval) (xs := parts.toList) fun x hx => hE x (by simpa [Op.operands] using hx)
      simpa using this
    case store t a x =>
      cases hp : pStore P t (ev a) (ev x) h with
      | none => rw [hp] at hv; cases hv
      | some h3 =>
        rw [hp] at hv
        cases hv
        exact doesU _ rfl rfl (store_sim S (hE a (by simp [Op.operands])) (hE x (by simp [Op.operands])) hp)
    case convert s d x => exact does _ rfl (bytes_sim S (hE x (by simp [Op.operands])) hv)
    case makeMap t r => exact does _ rfl (makeMap_sim S (map_OR fun y hy => hE y (by cases hy; simp [Op.operands])) hv)
    case makeSlice t l c => exact does _ rfl (makeSlice_sim S (hE l (by simp [Op.operands])) (hE c (by simp [Op.operands])) hv)
    case mapUpdate t m k x =>
      cases hp : pUpdate P t (ev m) (ev k) (ev x) h with
      | none => rw [hp] at hv; cases hv
      | some h3 =>
        rw [hp] at hv
        cases hv
        exact doesU _ rfl rfl (update_sim S (hE m (by simp [Op.operands])) (hE k (by simp [Op.operands])) (hE x (by simp [Op.operands])) hp)
    case insert t m k x =>
      cases hp : pUpdate P t (ev m) (ev k) (ev x) h with
      | none => rw [hp] at hv; cases hv
      | some h3 =>
        rw [hp] at hv
        cases hv
        exact doesU _ rfl rfl (update_sim S (hE m (by simp [Op.operands])) (hE k (by simp [Op.operands])) (hE x (by simp [Op.operands])) hp)
    case range t x => exact does _ rfl (range_sim S (hE x (by simp [Op.operands])) hv)
    case next x b => exact does _ rfl (next_sim S (hE x (by simp [Op.operands])) hv)
    case call c =>
      obtain ⟨callee, args, argTypes⟩ := c
      have leads : ∀ fn cap as, (execOp a'.eval ⟨dst, .call ⟨callee, args, argTypes⟩, type, pos, after, guard⟩).run P w = (invoke (.fn fn cap) as).run P w → Leads G P w0 ρ D w fn cap as v h2 →
          Oper.uponIn F 0 P ⟨dst, .call ⟨callee, args, argTypes⟩, type, pos, after, guard⟩ a' next Q ((execOp a'.eval ⟨dst, .call ⟨callee, args, argTypes⟩, type, pos, after, guard⟩).run P w) := by
        rintro fn cap as he ⟨nx, k1, k2⟩
        rw [he, k1]
        rcases k2 with ⟨f, as', rfl, k2⟩ | ⟨l, f, ts, as', bd, _, rfl, k2⟩ | ⟨v', rfl, k2, k3⟩
        · rw [Oper.uponIn_enter]
          refine ⟨hF.depth, ?_⟩
          obtain ⟨r, rfl⟩ := hF
          have k3 : CallsIn { Fence.wide with round := r } 0 P f as' w (CallPost G P w0 ρ D v h2) := k2
          exact ⟨trivial, fun cs hr => by
            obtain ⟨e, w', fr, q1, q2⟩ := k3.2 cs hr
            obtain ⟨ρ', v', rfl, z1, z2, z3⟩ := q1
            exact ⟨.returned v', w', fr, hnext _ _ _ z1 z2 z3, q2⟩⟩
        · rw [Oper.uponIn_round]
          refine ⟨hF.depth, ?_⟩
          obtain ⟨r, rfl⟩ := hF
          have k3 : RoundIn { Fence.wide with round := r } 0 P l f ts as' bd w (CallPost G P w0 ρ D v h2) := k2
          exact k3.mono fun e w' hq => by
            obtain ⟨ρ', v', rfl, z1, z2, z3⟩ := hq
            exact hnext _ _ _ z1 z2 z3
        · rw [Oper.uponIn_value]
          exact hnext _ _ _ (Ren.le_refl _) k2 k3
      have hargs : AsR ρ (args.map ev) (args.map a'.eval) := map_AsR fun x hx => hE x (by simp [Op.operands, Call.operands, hx])
      cases callee with
      | value f =>
        simp only at hv
        have hf := hE f (by simp [Op.operands, Call.operands])
        split at hv
        · rename_i fn first captured hef
          rw [hef] at hf
          generalize hef' : a'.eval f = vf at hf
          cases hf with
          | func _ fn' _ _ first' captured' q1 q2 q3 q4 q5 =>
            refine leads fn' captured' (first' ++ args.map a'.eval) ?_ (hI _ _ _ _ _ _ hv ρ D w _ _ _ S q1 ⟨q4, q5⟩ (AsR.append ⟨q2, q3⟩ hargs))
            simp [execOp, resolve, hef', Deferred.ofValue]
        · cases hv
      | invoke r name =>
        simp only at hv
        have hr := hE r (by simp [Op.operands, Call.operands])
        refine leads (.method name) #[] (#[a'.eval r] ++ args.map a'.eval) ?_ (hI _ _ _ _ _ _ hv ρ D w _ _ _ S (.method name) ⟨rfl, fun i v v' h1 => by simp at h1⟩ (AsR.append (AsR.list.2 (.cons hr .nil)) hargs))
        simp [execOp, resolve]
      | builtin b =>
        have two : ∀ x y, args.toList = [x, y] → args = #[x, y] := fun x y hl => Array.toList_inj.1 (by simpa using hl)
        cases b <;> simp only at hv <;> (try (cases hv; done))
        case append =>
          split at hv
          · rename_i s x hl
            obtain rfl := two _ _ hl
            refine does (Builtin.append_ argTypes type #[a'.eval s, a'.eval x]) ?_ (append_sim S (hE s (by simp [Op.operands, Call.operands])) (hE x (by simp [Op.operands, Call.operands])) hv)
            simp [execOp, resolve, invoke, builtin]
          · cases hv
        case copy =>
          split at hv
          · rename_i s x hl
            obtain rfl := two _ _ hl
            refine does (Builtin.copy_ argTypes type #[a'.eval s, a'.eval x]) ?_ (copy_sim S (hE s (by simp [Op.operands, Call.operands])) (hE x (by simp [Op.operands, Call.operands])) hv)
            simp [execOp, resolve, invoke, builtin]
          · cases hv
        case clear =>
          split at hv
          · rename_i x hl
            have : args = #[x] := Array.toList_inj.1 (by simpa using hl)
            subst this
            cases hp : pClear P argTypes (ev x) h with
            | none => rw [hp] at hv; cases hv
            | some h3 =>
              rw [hp] at hv
              cases hv
              obtain ⟨w', k1, k2⟩ := clear_sim (t := type) S (hE x (by simp [Op.operands, Call.operands])) hp
              refine does (Builtin.clear_ argTypes type #[a'.eval x]) (by simp [execOp, resolve, invoke, builtin]) ⟨ρ, _, w', k1, Ren.le_refl _, .unk _, k2⟩
          · cases hv

/-- A new row that the evaluator has had for long. -/
theorem op_settle {inv : Inv} {F : Fence} (hF : FenceOK F) {hp : AH} {D2 : List Mk} (S : Sim G P w0 ρ D hp w) {o : Oper} {ev : Operand → Value} {a' : Act} (hE : ∀ x ∈ o.op.operands, VR ρ (ev x) (a'.eval x)) {v : Value} {h2 : AH}
    (hfr : freshOp o = true) (hv : eOp P inv o ev h = some (v, h2)) {ob : AO} (hob : h2 = h.alloc ob) (hb : Mk.late h.n ob ∈ D)
    (hD : ∀ x ∈ D2, x ∈ D) (hD' : ∀ x ∈ D, x ∈ D2 ∨ ∃ o', x = Mk.late h.n o') (hnd : (D2.map Mk.key).Nodup) (hl : ¬ Late D2 h.n) {next : Act → World → Prop} {Q : Exit → Act → World → Prop}
    (hnext : ∀ ρ' v' w', ρ.le ρ' → VR ρ' v v' → Sim G P w0 ρ' D2 hp w' → next (a'.put o.dst v') w') : o.wpIn F 0 P a' w next Q := by
  have nodefer : ∀ c, o.op ≠ .defer c := by
    intro c hc
    unfold freshOp at hfr
    rw [hc] at hfr
    cases hfr
  refine ⟨fun f _ => hF.fn f, ?_⟩
  have hsem : Oper.semAt F.round a'.eval o = execOp a'.eval o := by
    cases F.round with
    | none => rfl
    | some l => exact Oper.semAt_some l _ o nodefer
  rw [hsem]
  have does : ∀ s : Sem Value, execOp a'.eval o = (do pure (.value (← s))) → Fresh P ρ w h s v h2 → o.uponIn F 0 P a' next Q ((execOp a'.eval o).run P w) := by
    intro s hs hf
    obtain ⟨ρ', v', w', k1, k2, k3, k4⟩ := hf.settle S hob hb hD hD' hnd hl
    rw [hs]
    simp only [Sem.run_bind, k1, Result.andThen_ok, Sem.run_pure, Oper.uponIn_value]
    exact hnext _ _ _ k2 k3 k4
  unfold eOp at hv
  obtain ⟨dst, op, type, pos, after, guard⟩ := o
  cases op <;> (try (cases hfr; done))
  case alloc t => exact does _ rfl (alloc_fresh hv)
  case box t x => exact does _ rfl (box_fresh (hE x (by simp [Op.operands])) hv)
  case buildSlice t n parts =>
    have he : execOp a'.eval ⟨dst, .buildSlice t n parts, type, pos, after, guard⟩ = (do pure (.value (← Instr.buildSlice t n (parts.map fun p => (p.1, a'.eval p.2))))) :=
      congrArg (fun ps => (do pure (Next.value (← Instr.buildSlice t n ps)) : Sem Next)) (Array.map_congr_left fun ⟨i, x⟩ _ => rfl)
    refine does _ he ?_
    refine buildSlice_fresh ?_ hv
    have := map_PsR (ρ := ρ) (ev := ev) (ev' := a'.eval) (xs := parts.toList) fun x hx => hE x (by simpa [Op.operands] using hx)
    simpa using this
/-- What such an operation adds. -/
theorem fresh_form {inv : Inv} {o : Oper} {ev : Operand → Value} {v : Value} {h2 : AH} (hfr : freshOp o = true) (hv : eOp P inv o ev h = some (v, h2)) : ∃ ob, h2 = h.alloc ob := by
  unfold eOp at hv
  obtain ⟨dst, op, type, pos, after, guard⟩ := o
  cases op <;> (try (cases hfr; done))
  case alloc t => obtain ⟨cs, e, _, _, _, _, h1, _⟩ := alloc_fresh (ρ := fun _ => none) (w := default) hv; exact ⟨_, h1⟩
  case box t x =>
    simp only [isLight, Bool.false_eq_true, if_false, eHeavy] at hv
    unfold pBox newCells at hv
    split at hv
    · cases hv; exact ⟨_, rfl⟩
    · cases hv
  case buildSlice t n parts =>
    simp only [isLight, Bool.false_eq_true, if_false, eHeavy] at hv
    unfold pBuildSlice at hv
    split at hv
    · cases hv
    · split at hv
      · split at hv
        · cases hv
        · split at hv
          · cases hv; exact ⟨_, rfl⟩
          · cases hv
      · cases hv

/-! ### A region in the text's order -/
def okOperand : Operand → Bool
  | .tmp _ | .func _ => true
  | .const v => plain v
  | .global _ => false
def okOper (o : Oper) : Bool := o.op.operands.toList.all okOperand
theorem eval_sim {a a' : Act} (ha : AsR ρ a.tmps a'.tmps) {x : Operand} (hx : okOperand x = true) : VR ρ (a.eval x) (a'.eval x) := by
  cases x with
  | tmp t => exact ha.getD t
  | const v => exact VR.reflP ρ hx
  | global g => cases hx
  | func f => exact .func _ _ _ _ _ _ (.func f) rfl (fun i v v' h1 => by simp at h1) rfl (fun i v v' h1 => by simp at h1)
theorem wanted_slot {ops : Array Oper} {o : Oper} {t t' : Array Value} {b : Bool} (hw : wantedE ops o t = some b)
    (ha : ∀ (j : Nat) (want : Bool) (d : Tmp) (v : Value), o.guard = some (j, want) → (ops[j]?).bind (·.dst) = some d → t[d]? = some v → ∃ v', t'[d]? = some v' ∧ VR ρ v v') : Region.wanted o (yielded ops t') = b := by
  unfold wantedE at hw
  simp only [Array.getElem?_toList] at hw
  unfold Region.wanted
  cases hg : o.guard with
  | none => rw [hg] at hw; cases hw; rfl
  | some jw =>
    obtain ⟨j, want⟩ := jw
    rw [hg] at hw
    simp only at hw ⊢
    unfold yielded
    cases hd : (ops[j]?).bind (·.dst) with
    | none => rw [hd] at hw; cases hw
    | some d =>
      rw [hd] at hw
      simp only [Option.bind_some] at hw ⊢
      cases hv : (t[d]? : Option Value) with
      | none => rw [hv] at hw; cases hw
      | some v =>
        rw [hv] at hw
        obtain ⟨v', h1, h2⟩ := ha j want d v hg hd hv
        rw [h1]
        cases h2 <;> (try simp only at hw) <;> first
          | (cases hw; done)
          | (cases hw; simp only [beq_iff_eq]; rename_i b0; cases b0 <;> cases want <;> rfl)
          | skip
        case skipped =>
          cases hw
          rfl
        case tuple a a' hs hp =>
          split at hw
          · rename_i us hl
            split at hw
            · cases hw
              have ha2 : a = #[.tuple us] := Array.toList_inj.1 (by simpa using hl)
              subst ha2
              simp only [beq_eq_false_iff_ne]
              cases want <;> simp
            · cases hw
          · cases hw
theorem wanted_sim {ops : Array Oper} {o : Oper} {t t' : Array Value} (ha : AsR ρ t t') {b : Bool} (hw : wantedE ops o t = some b) : Region.wanted o (yielded ops t') = b :=
  wanted_slot hw fun _ _ _ _ _ _ hv => ha.get hv
theorem put_AsR {a a' : Act} (ha : AsR ρ a.tmps a'.tmps) (d : Option Tmp) {v v' : Value} (hv : VR ρ v v') : AsR ρ (a.put d v).tmps (a'.put d v').tmps := by
  cases d with
  | none => exact ha
  | some t => exact ha.set t hv
theorem put_defers (a : Act) (d : Option Tmp) (v : Value) : (a.put d v).defers = a.defers := by cases d <;> rfl
theorem ops_sim {inv : Inv} (hI : InvOK G P w0 inv) {F : Fence} (hF : FenceOK F) {ops : Array Oper} (hops : ∀ (i : Nat) (o : Oper), ops[i]? = some o → okOper o = true) {Q : Exit → Act → World → Prop} :
    ∀ (is : List Nat) {ρ : Ren} {h : AH} {w : World} {a a' a2 : Act} {h2 : AH}, Sim G P w0 ρ D h w → AsR ρ a.tmps a'.tmps → eOps P inv ops is a h = some (a2, h2) →
      (∀ ρ' a2' w', ρ.le ρ' → AsR ρ' a2.tmps a2'.tmps → a2'.defers = a'.defers → Sim G P w0 ρ' D h2 w' → Q .normal a2' w') → wpOpsIn F 0 P ops Q is a' w := by
  intro is
  induction is with
  | nil =>
    intro ρ h w a a' a2 h2 S ha he hQ
    simp only [eOps, Option.some.injEq, Prod.mk.injEq] at he
    obtain ⟨rfl, rfl⟩ := he
    exact hQ ρ a' w (Ren.le_refl _) ha rfl S
  | cons i is ih =>
    intro ρ h w a a' a2 h2 S ha he hQ
    unfold eOps at he
    cases hst : eStep P inv ops i a h with
    | none => rw [hst] at he; cases he
    | some t =>
      rw [hst] at he
      simp only [putF_eq] at he
      unfold eStep at hst
      rw [Array.getElem?_toList] at hst
      cases ho : ops[i]? with
      | none => rw [ho] at hst; cases hst
      | some o =>
        rw [ho] at hst
        simp only at hst
        have hok := List.all_eq_true.1 (hops i o ho)
        have hE : ∀ x ∈ o.op.operands, VR ρ (a.eval x) (a'.eval x) := fun x hx => eval_sim ha (hok x (by simpa using hx))
        simp only [wpOpsIn, ho]
        cases hw : wantedE ops o a.tmps with
        | none => rw [hw] at hst; cases hst
        | some b =>
          rw [hw] at hst
          have hww := wanted_sim ha hw
          cases b with
          | false =>
            simp only [Option.some.injEq] at hst
            subst hst
            rw [hww]
            simp only [Bool.false_eq_true, if_false]
            refine ⟨fun f _ => hF.fn f, ih S (put_AsR ha _ .skipped) he fun ρ' a2' w' q1 q2 q3 q4 => hQ ρ' a2' w' q1 q2 (by rw [q3, put_defers]) q4⟩
          | true =>
            simp only at hst
            rw [hww]
            simp only [if_true]
            rw [evL_eq] at hst
            cases hop : eOp P inv o a.eval h with
            | none => rw [hop] at hst; cases hst
            | some vh =>
              obtain ⟨v, h3⟩ := vh
              rw [hop] at hst
              simp only [fcV_eq, fcH_eq, Option.some.injEq] at hst
              subst hst
              refine op_sim hI hF S hE hop fun ρ' v' w' q1 q2 q3 => ?_
              exact ih q3 (put_AsR (ha.mono q1) _ q2) he fun ρ2 a2' w2 z1 z2 z3 z4 => hQ ρ2 a2' w2 (Ren.le_trans q1 z1) z2 (by rw [z3, put_defers]) z4
end Go.Proofs.Ev
