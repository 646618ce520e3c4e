/- Functions, rounds, methods: the evaluator is sound. -/
import Derived.Test.YtpiibdegmimckaaEv14
import Derived.RangeFuncRecord
set_option linter.unusedVariables false
set_option linter.unusedSimpArgs false
namespace Go.Proofs.Ev
open Go Go.RowKit
variable {P : Program} {w0 : World} {ρ : Ren} {D : List Mk} {h : AH} {w : World}

/-! ### 1. Marks -/
theorem Sim.shut {G : Code → Prop} {d : Nat} (S : Sim G P w0 ρ (Mk.d d :: D) h w) : Sim G P w0 ρ D h (w.putObj d (.deferred none)) := by
  obtain ⟨hd1, hd2⟩ := S.defs d (by simp)
  have hnd := List.nodup_cons.1 (show (Mk.key (Mk.d d) :: D.map Mk.key).Nodup from S.nodup)
  have hother : ∀ k, k ≠ d → (w.putObj d (.deferred none)).heap[k]? = w.heap[k]? := fun k hk => World.putObj_heap_other hk
  refine ⟨⟨S.below.os, S.below.tape, S.below.output, by simpa using S.below.size, fun k hk => ?_⟩, fun i r hr => by simpa using S.dom i r hr, fun i o hi ho hl => ?_, S.sep, fun e he => ?_, hnd.2, fun b o hb => S.late b o (by simp [hb])⟩
  · rw [hother k (by omega)]; exact S.below.block k hk
  · obtain ⟨r, hr, hob⟩ := S.obj i o hi ho (fun ⟨o, q⟩ => hl ⟨o, by simpa using q⟩)
    refine ⟨r, hr, hob.same (Ren.le_refl _) (hother _ ?_)⟩
    rintro rfl
    cases o with
    | cells c e own => obtain ⟨c', e', fz, k1, _⟩ := CellsR.heap hob; rw [hd2] at k1; cases k1
    | map es clk => obtain ⟨_, es', k1, _⟩ := hob; rw [hd2] at k1; cases k1
    | iter s p => have := hob.2.2; rw [hd2] at this; cases this
    | loop st pd f ts ps as bd => obtain ⟨_, _, _, f', ts', d', k1, _⟩ := hob; rw [hd2] at k1; cases k1
    | dead => exact absurd rfl ho
  · obtain ⟨e1, e2⟩ := S.defs e (by simp [he])
    have : e ≠ d := by rintro rfl; exact hnd.1 (List.mem_map.2 ⟨_, he, rfl⟩)
    exact ⟨e1, (hother e this).trans e2⟩
theorem Sim.drop {G : Code → Prop} {ds : List Nat} (S : Sim G P w0 ρ (ds.map Mk.d ++ D) h w) : Sim G P w0 ρ D h w :=
  ⟨S.below, S.dom, fun i o hi hd hl => S.obj i o hi hd (fun ⟨o, q⟩ => hl ⟨o, by simpa using q⟩), S.sep, fun d hd => S.defs d (by simp [hd]), (List.nodup_append.1 (by simpa using S.nodup : ((List.map Mk.d ds).map Mk.key ++ D.map Mk.key).Nodup)).2.1, fun b o hb => S.late b o (by simp [hb])⟩

/-! ### 2. What a function gives back -/
theorem VR.ptr_form {P : Program} {t : TypeId} {v v' x : Value} {h : AH} (hv : VR ρ v v') (hx : pLoad P t v h = some x) : ∃ a', v' = .pointer (some a') := by
  unfold pLoad at hx
  split at hx
  · cases hv with
    | ptr _ a' _ => exact ⟨a', rfl⟩
  · cases hx
theorem resultList_sim {G : Code → Prop} (S : Sim G P w0 ρ D h w) {a a' : Act} (ha : AsR ρ a.tmps a'.tmps) : ∀ (rs : List ResultVar) (vs : List Value), eResultList P a h rs = some vs →
    ∃ vs', (rs.mapM (fun | .tmp t => pure (a'.tmps.getD t undef) | .cell b t => do loadVar t (← asAddr (a'.tmps.getD b undef)) : ResultVar → Sem Value)).run P w = .ok vs' w ∧ LsR ρ vs vs' := by
  intro rs
  induction rs with
  | nil => intro vs hv; cases hv; exact ⟨[], by simp, .nil⟩
  | cons r rs ih =>
    intro vs hv
    simp only [eResultList] at hv
    cases h1 : eResult P a h r with
    | none => rw [h1] at hv; cases hv
    | some v =>
      rw [h1] at hv
      cases h2 : eResultList P a h rs with
      | none => rw [h2] at hv; cases hv
      | some vs1 =>
        rw [h2] at hv
        cases hv
        obtain ⟨vs', e1, e2⟩ := ih _ h2
        cases r with
        | tmp t =>
          simp only [eResult, Option.some.injEq] at h1
          subst h1
          exact ⟨a'.tmps.getD t undef :: vs', by rw [List.mapM_cons]; simp only [Sem.run_bind, Sem.run_pure, Result.andThen_ok, e1], .cons (ha.getD t) e2⟩
        | cell b t =>
          simp only [eResult] at h1
          obtain ⟨x', y1, y2⟩ := load_sim S (ha.getD b) h1
          obtain ⟨a1, ha1⟩ := (ha.getD b).ptr_form h1
          rw [ha1] at y1
          have ha1 : a'.tmps.getD b undef = .pointer (some a1) := ha1
          have y4 : (asAddr (a'.tmps.getD b undef)).run P w = .ok a1 w := by rw [ha1]; rfl
          have y3 : (loadVar t a1).run P w = .ok x' w := by simpa [Instr.loadAt, Instr.sureAddr] using y1
          exact ⟨x' :: vs', by rw [List.mapM_cons]; simp only [Sem.run_bind, Sem.run_pure, Result.andThen_ok, e1, y4, y3], .cons y2 e2⟩
theorem results_sim {G : Code → Prop} (S : Sim G P w0 ρ D h w) {a a' : Act} (ha : AsR ρ a.tmps a'.tmps) {fn : Func} {v : Value} (hv : eResults P fn a h = some v) :
    ∃ v', (results fn a'.tmps).run P w = .ok v' w ∧ VR ρ v v' := by
  unfold eResults at hv
  have key : ∀ vs, eResultList P a h fn.results.toList = some vs → ∃ vs' : List Value, (results fn a'.tmps).run P w = .ok (if h : vs'.toArray.size = 1 then vs'.toArray[0] else .tuple vs'.toArray) w ∧ LsR ρ vs vs' := by
    intro vs hvs
    obtain ⟨vs', e1, e2⟩ := resultList_sim S ha _ _ hvs
    refine ⟨vs', ?_, e2⟩
    unfold results
    rw [Array.mapM_eq_mapM_toList]
    rw [map_eq_pure_bind, bind_assoc]
    simp only [Sem.run_bind]
    refine (congrArg (fun r => Result.andThen r _) e1).trans ?_
    simp only [Result.andThen_ok, Sem.run_bind, Sem.run_pure]
  split at hv
  · rename_i x hvs
    cases hv
    obtain ⟨vs', e1, e2⟩ := key _ hvs
    cases e2 with
    | cons q1 q2 => cases q2; exact ⟨_, by simpa using e1, q1⟩
  · rename_i vs hvs hne
    cases hv
    obtain ⟨vs', e1, e2⟩ := key _ hne
    have hl := AsR.list.2 (show LsR ρ vs.toArray.toList vs'.toArray.toList by simpa using e2)
    have : vs'.toArray.size ≠ 1 := by
      rw [← hl.1]
      intro hone
      simp at hone
      obtain ⟨x, rfl⟩ := List.length_eq_one_iff.1 hone
      exact hvs x rfl
    rw [dif_neg this] at e1
    exact ⟨_, e1, .tuple _ _ hl.1 hl.2⟩
  · cases hv

/-! ### 3. A function -/
variable {E : Env}
theorem leaves_sim {fn : Func} {a a' : Act} {v : Value} : ∀ (ds : List Nat) {ρ0 ρ : Ren} {w : World}, ρ0.le ρ → Sim (GC E.P) E.P w0 ρ (ds.map Mk.d ++ D) h w → AsR ρ a.tmps a'.tmps → eResults E.P fn a h = some v →
    LeavesInM Fence.wide 0 E.P fn a'.tmps (CallPost (GC E.P) E.P w0 ρ0 D v h) (ds.map markOf) .returning w := by
  intro ds
  induction ds with
  | nil =>
    intro ρ0 ρ w hle S ha hv
    obtain ⟨v', e1, e2⟩ := results_sim S ha hv
    exact ⟨v', e1, ρ, v', rfl, hle, e2, S⟩
  | cons d ds ih =>
    intro ρ0 ρ w hle S ha hv
    exact ⟨by simp, .inl ⟨d, _, rfl, run_takeDeferred (S.defs d (by simp)).2, ih hle (Sim.shut S) ha hv⟩⟩
theorem fun_sim (hE : EnvOK E) {inv : Inv} (hI : InvOK (GC E.P) E.P w0 inv) {k : Nat} {f : FuncId} {args args' : Array Value} {v : Value} {h2 : AH} (he : eFun E k inv f args h = some (v, h2))
    (S : Sim (GC E.P) E.P w0 ρ D h w) (ha : AsR ρ args args') :
    (∃ fn c, E.P.funcs[f]? = some fn ∧ fn.body = some c ∧ (fn.name == "runtime.NumGoroutine") = false) ∧ CallsIn Fence.wide 0 E.P f args' w (CallPost (GC E.P) E.P w0 ρ D v h2) := by
  unfold eFun at he
  split at he
  · rename_i g hg
    obtain ⟨h1, hc⟩ := hE.orac f g hg
    exact ⟨h1, hc _ _ _ _ he _ _ _ _ _ S ha⟩
  · split at he
    case isFalse => cases he
    rename_i hL
    obtain ⟨fn, c, hf, hb, hgc, hnm⟩ := hE.code f hL
    refine ⟨⟨fn, c, hf, hb, hnm⟩, ?_⟩
    rw [hf] at he
    simp only [hb, fcA_eq (fcV_eq 8)] at he
    have hini : AsR ρ (args ++ Array.replicate (fn.ntmps - args.size) unk) (args' ++ Array.replicate (fn.ntmps - args'.size) undef) := by
      rw [ha.1]
      exact AsR.append ha ⟨by simp, fun i v v' h1 h2 => by
        rw [Array.getElem?_replicate] at h1
        split at h1
        · cases h1; exact .unk _
        · cases h1⟩
    have go : ∀ x a2, x.to = .normal ∨ x.to = .ret → eCode E f false inv k c { tmps := args ++ Array.replicate (fn.ntmps - args.size) unk, defers := [] } h = some (x, a2, h2) → eResults E.P fn a2 h2 = some v →
        CallsIn Fence.wide 0 E.P f args' w (CallPost (GC E.P) E.P w0 ρ D v h2) := by
      intro x a2 hx hc hv
      have := code_sim hE hI (f := f) (rd := false) (F := Fence.wide) FenceOK.wide (fun _ => rfl) c hgc _ _ _ _ _ hc ρ D [] w { tmps := args' ++ Array.replicate (fn.ntmps - args'.size) undef, defers := [] } S hini rfl
      refine callsIn_of_wp_marks hf hb trivial (wpIn_mono this fun e a3 w3 hq => ?_)
      obtain ⟨rfl, ρ1, ds1, q1, q2, q3, q4⟩ := hq
      have hl := leaves_sim (E := E) (fn := fn) ds1 q1 q4 q2 hv
      rw [← q3] at hl
      rcases hx with hx | hx
      · rw [hx]; exact hl
      · rw [hx]; exact hl
    split at he
    · rename_i a2 h3 hc
      cases hr : eResults E.P fn a2 h3 with
      | none => rw [hr] at he; cases he
      | some v0 =>
        rw [hr] at he
        simp only [Option.map_some, Option.some.injEq, Prod.mk.injEq] at he
        obtain ⟨rfl, rfl⟩ := he
        exact go .normal a2 (.inl rfl) hc hr
    · rename_i a2 h3 hc
      cases hr : eResults E.P fn a2 h3 with
      | none => rw [hr] at he; cases he
      | some v0 =>
        rw [hr] at he
        simp only [Option.map_some, Option.some.injEq, Prod.mk.injEq] at he
        obtain ⟨rfl, rfl⟩ := he
        exact go .ret a2 (.inr rfl) hc hr
    · cases he

/-! ### 4. A round -/
theorem fillRound_sim (ps : Array Tmp) {as as' ts ts' : Array Value} (ha : AsR ρ as as') (ht : AsR ρ ts ts') :
    AsR ρ ((ps.zip as).foldl (fun tmps (t, a) => tmps.setIfInBounds t a) ts) ((ps.zip as').foldl (fun tmps (t, a) => tmps.setIfInBounds t a) ts') := by
  have key : ∀ (ps : List Tmp) (l l' : List Value), LsR ρ l l' → ∀ ts ts', AsR ρ ts ts' →
      AsR ρ ((ps.zip l).foldl (fun (tmps : Array Value) (x : Tmp × Value) => tmps.setIfInBounds x.1 x.2) ts) ((ps.zip l').foldl (fun (tmps : Array Value) (x : Tmp × Value) => tmps.setIfInBounds x.1 x.2) ts') := by
    intro ps
    induction ps with
    | nil => intro l l' _ ts ts' ht; simpa using ht
    | cons p ps ih =>
      intro l l' hl ts ts' ht
      cases hl with
      | nil => simpa using ht
      | cons hx hr => simpa using ih _ _ hr _ _ (ht.set p hx)
  rw [← Array.foldl_toList, ← Array.foldl_toList, Array.toList_zip, Array.toList_zip]
  exact key _ _ _ (AsR.list.1 ha) _ _ ht
theorem Sim.loopAt {G : Code → Prop} (S : Sim G P w0 ρ D h w) {l : Nat} {st : LoopState} {pd : Option Code} {f : FuncId} {ts : Array Value} {ps : Array Tmp} {as bd : Code} (hl : h.get l = some (.loop st pd f ts ps as bd)) {r : RB} (hr : ρ l = some r) :
    w0.heap.size ≤ r.blk ∧ r.blk < w.heap.size ∧ G as ∧ G bd ∧ ∃ (f' : FuncId) (ts' : Array Value) (d : Nat), w.heap[r.blk]? = some (.loop { state := st, pending := pd, fn := f', tmps := ts', params := ps, assign := as, body := bd, defers := d }) ∧ AsR ρ ts ts' := by
  obtain ⟨r', h1, h2⟩ := S.objAt hr hl (by simp)
  rw [hr] at h1
  cases h1
  obtain ⟨y2, y3, y4, y5⟩ := h2
  exact ⟨y2, (S.dom _ _ hr).2, y3, y4, y5⟩
theorem Sim.setLoop {G : Code → Prop} (S : Sim G P w0 ρ D h w) {l : Nat} {st st2 : LoopState} {pd pd2 : Option Code} {f f2 : FuncId} {ts : Array Value} {ps : Array Tmp} {as bd : Code} (hl : h.get l = some (.loop st pd f ts ps as bd)) {r : RB} (hr : ρ l = some r)
    {f' : FuncId} {ts' : Array Value} {d : Nat} (ht : AsR ρ ts ts') (ha : G as) (hb : G bd) (hge : w0.heap.size ≤ r.blk) :
    Sim G P w0 ρ D (h.set l (.loop st2 pd2 f2 ts ps as bd)) (w.putObj r.blk (.loop { state := st2, pending := pd2, fn := f', tmps := ts', params := ps, assign := as, body := bd, defers := d })) :=
  Sim.setObj (o1 := .loop st2 pd2 f2 ts ps as bd) S hl hr rfl rfl rfl rfl ⟨hge, ha, hb, f', ts', d, World.putObj_heap_same (S.dom _ _ hr).2, ht⟩
theorem round_sim (hE : EnvOK E) {inv : Inv} (hI : InvOK (GC E.P) E.P w0 inv) {k : Nat} {l : Nat} {args args' : Array Value} {v : Value} {h2 : AH} (he : eRound E k inv l args h = some (v, h2))
    (S : Sim (GC E.P) E.P w0 ρ D h w) (ha : AsR ρ args args') {r : RB} (hr : ρ l = some r) (cap' : Array Value) :
    Leads (GC E.P) E.P w0 ρ D w (.yield r.blk) cap' args' v h2 := by
  unfold eRound at he
  split at he
  case h_2 => cases he
  rename_i pd f ts ps as bd hl
  split at he
  · cases he
  rename_i hsz
  simp only [fcA_eq (fcV_eq 8)] at he
  obtain ⟨g1, g2, g3, g4, f', ts', d, g5, g6⟩ := S.loopAt hl hr
  have hsz' : args'.size = ps.size := by rw [← ha.1]; omega
  refine ⟨_, run_yield (P := E.P) (w := w) (args := args') g5 hsz', .inr (.inl ⟨_, _, _, _, _, rfl, rfl, ?_⟩)⟩
  have hfill := fillRound_sim ps ha g6
  split at he
  case h_2 => cases he
  rename_i a1 h1 hc1
  split at he
  case h_2 => cases he
  rename_i pd1 f1 ts1 ps1 as1 bd1 hl1
  split at he
  case h_2 => cases he
  rename_i x a2 h3 hc2
  split at he
  case h_2 => cases he
  rename_i st2 pd2 f2 ts2 ps2 as2 bd2 hl2
  simp only [Option.some.injEq, Prod.mk.injEq] at he
  obtain ⟨rfl, rfl⟩ := he
  refine roundIn_of_wpIn (F := Fence.wide) (n := 0) (l := r.blk) trivial ?_
  have w1 := code_sim hE hI (f := f) (rd := true) (F := Fence.wide.inRound r.blk) (FenceOK.round _) (fun hx => by cases hx) as g3 _ _ _ _ _ hc1 ρ D [] w { tmps := (ps.zip args').foldl (fun tmps (t, a) => tmps.setIfInBounds t a) ts', defers := [] } S hfill rfl
  refine wpIn_mono w1 fun e b1 w2 hq => ?_
  obtain ⟨rfl, ρ1, ds1, q1, q2, q3, q4⟩ := hq
  have hr1 := q1 _ _ hr
  obtain ⟨k1, k2, k3, k4, f1', ts1', d1, k5, k6⟩ := q4.loopAt hl1 hr1
  refine ⟨_, run_beginRound (P := E.P) k5 rfl, ?_⟩
  have S2 := q4.setLoop (st2 := .busy) (pd2 := pd1) (f2 := f1) (f' := f1') (d := d1) hl1 hr1 k6 k3 k4 k1
  have w2' := code_sim hE hI (f := f) (rd := true) (F := Fence.wide.inRound r.blk) (FenceOK.round _) (fun hx => by cases hx) bd g4 _ _ _ _ _ hc2 ρ1 D ds1 _ b1 S2 q2 q3
  refine wpIn_mono w2' fun e b2 w3 hq => ?_
  obtain ⟨rfl, ρ2, ds2, z1, z2, z3, z4⟩ := hq
  have hr2 := z1 _ _ hr1
  obtain ⟨m1, m2, m3, m4, f2', ts2', d2, m5, m6⟩ := z4.loopAt hl2 hr2
  have fin : ∀ jump : Option Code, ∃ v' w', (Instr.endRound r.blk jump).run E.P w3 = .ok v' w' ∧
      CallPost (GC E.P) E.P w0 ρ D (.bool jump.isNone) (h3.set l (.loop (if jump.isNone then .ready else .done) jump f2 ts2 ps2 as2 bd2)) (.returned v') w' := fun jump =>
    ⟨_, _, run_endRound jump m5, ρ2, _, rfl, Ren.le_trans q1 z1, .bool _, (z4.setLoop (st2 := if jump.isNone then .ready else .done) (pd2 := jump) (f2 := f2) (f' := f2') (d := d2) hl2 hr2 m6 m3 m4 m1).drop⟩
  cases x with
  | normal => exact fin none
  | ret => exact fin (some .ret)
  | exit id => exact fin (some (.exit id))

/-! ### 5. Where a call leads -/
theorem run_program' (w : World) : (program : Sem Program).run P w = .ok P w := rfl
theorem meth_sim {t : TypeId} {v v' : Value} {name : String} {f : FuncId} {r : Value} (he : eMeth P t v name = some (f, r)) (n : Nat) (w : World) :
    r = v ∧ (method (n + 1) t v' name).run P w = .ok (f, v') w := by
  unfold eMeth at he
  split at he
  · cases he
  rename_i i hi
  split at he
  · cases he
  rename_i m hm
  split at he
  case isFalse => cases he
  rename_i hp
  have hp0 : m.path = #[] := Array.eq_empty_of_size_eq_zero hp
  have base : ∀ b, m.func = some (f, b) → (method (n + 1) t v' name).run P w = (do pure (f, ← receiverAt t (.val v') b (if m.path.isEmpty then some ((name.splitOn ".").getLastD name) else none)) : Sem (FuncId × Value)).run P w := by
    intro b hb
    unfold method
    simp only [Sem.run_bind, typeInfo, run_program', hi, Result.andThen_ok, Sem.run_pure, hm, hp0, follow, hb]
  split at he
  · rename_i f0 e hf hu
    cases he
    refine ⟨rfl, ?_⟩
    rw [base true hf]
    simp [receiverAt, run_und hu, Place.get]
  · cases he
  · cases he
  · rename_i f0 d hnp hf hu
    cases he
    refine ⟨rfl, ?_⟩
    rw [base false hf]
    cases d with
    | pointer e => exact absurd rfl (hnp e)
    | _ => simp [receiverAt, run_und hu, Place.get]
  · cases he
theorem AsR.extract {a a' : Array Value} (ha : AsR ρ a a') (i j : Nat) : AsR ρ (a.extract i j) (a'.extract i j) := by
  refine ⟨by simp [ha.1], fun k v v' h1 h2 => ?_⟩
  rw [Array.getElem?_extract] at h1 h2
  rw [← ha.1] at h2
  split at h1
  · rename_i hk
    rw [if_pos hk] at h2
    exact ha.2 _ _ _ h1 h2
  · cases h1
theorem AsR.at {a a' : Array Value} (ha : AsR ρ a a') {i : Nat} {v : Value} (h : a[i]? = some v) : ∃ v', a'[i]? = some v' ∧ VR ρ v v' := by
  have : i < a'.size := by rw [← ha.1]; exact (Array.getElem?_eq_some_iff.1 h).1
  exact ⟨a'[i], Array.getElem?_eq_getElem this, ha.2 i _ _ h (Array.getElem?_eq_getElem this)⟩
theorem target_sim {fn fn' : Fn} {cap cap' args args' : Array Value} {f : Nat} {as : Array Value} (he : eTarget P fn cap args = some (true, f, as)) (hfn : FnR ρ fn fn') (hc : AsR ρ cap cap') (ha : AsR ρ args args') (w : World) :
    ∃ as', AsR ρ as as' ∧ (invoke (.fn fn' cap') args').run P w = (callFunc f as').run P w := by
  have one : ∀ {x y : Value}, VR ρ x y → AsR ρ (#[x] ++ args.extract 1 args.size) (#[y] ++ args'.extract 1 args'.size) := fun {x y} hv =>
    AsR.append (AsR.list.2 (.cons hv .nil)) (by rw [← ha.1]; exact ha.extract 1 _)
  have viaIface : ∀ {u : TypeId} {v v' : Value} {name : String} {r : Value}, VR ρ v v' → eMeth P u v name = some (f, r) → as = #[r] ++ args.extract 1 args.size →
      ∃ as', AsR ρ as as' ∧ (callMethod (.iface u v') name (args'.extract 1 args'.size)).run P w = (callFunc f as').run P w := by
    intro u v v' name r hv hm has
    obtain ⟨h1, h2⟩ := meth_sim (v' := v') hm (P.types.size + 99) w
    subst h1
    subst has
    refine ⟨_, one hv, ?_⟩
    have h3 : (method (P.types.size + Made.depth) u v' name).run P w = .ok (f, v') w := h2
    simp only [callMethod, Sem.run_bind, run_program', Result.andThen_ok, h3]
  unfold eTarget at he
  cases hfn with
  | func f0 =>
    simp only [Option.some.injEq, Prod.mk.injEq, true_and] at he
    obtain ⟨rfl, rfl⟩ := he
    exact ⟨_, AsR.append ha hc, rfl⟩
  | yield l r hr => simp at he
  | method name =>
    simp only at he
    split at he
    · rename_i t v h0
      obtain ⟨v0, y1, y2⟩ := ha.at h0
      cases y2 with
      | iface _ _ v' hv =>
      cases hm : eMeth P t v name with
      | none => rw [hm] at he; cases he
      | some q =>
        obtain ⟨f1, r⟩ := q
        rw [hm] at he
        simp only [Option.map_some, Option.some.injEq, Prod.mk.injEq, true_and] at he
        obtain ⟨rfl, rfl⟩ := he
        obtain ⟨as', z1, z2⟩ := viaIface hv hm rfl
        refine ⟨as', z1, ?_⟩
        simp only [invoke, y1]
        exact z2
    · cases he
  | methodOf t name =>
    simp only at he
    split at he
    · rename_i u v m h0 hu
      obtain ⟨v0, y1, y2⟩ := ha.at h0
      cases y2 with
      | iface _ _ v' hv =>
      cases hm : eMeth P u v name with
      | none => rw [hm] at he; cases he
      | some q =>
        obtain ⟨f1, r⟩ := q
        rw [hm] at he
        simp only [Option.map_some, Option.some.injEq, Prod.mk.injEq, true_and] at he
        obtain ⟨rfl, rfl⟩ := he
        obtain ⟨as', z1, z2⟩ := viaIface hv hm rfl
        refine ⟨as', z1, ?_⟩
        simp only [invoke, y1, Sem.run_bind, run_und hu, Result.andThen_ok]
        exact z2
    · cases he
    · rename_i x d hni _ h0 hu
      obtain ⟨v', y1, hv⟩ := ha.at h0
      cases hm : eMeth P t x name with
      | none => rw [hm] at he; cases he
      | some q =>
        obtain ⟨f1, r⟩ := q
        rw [hm] at he
        simp only [Option.map_some, Option.some.injEq, Prod.mk.injEq, true_and] at he
        obtain ⟨rfl, rfl⟩ := he
        obtain ⟨as', z1, z2⟩ := viaIface hv hm rfl
        refine ⟨as', z1, ?_⟩
        simp only [invoke, y1, Sem.run_bind, run_und hu, Result.andThen_ok]
        cases d with
        | interface m => exact absurd hu (by simp_all)
        | _ => exact z2
    · cases he
theorem inv_ok (hE : EnvOK E) (w0 : World) : ∀ k, InvOK (GC E.P) E.P w0 (eInv E k) := by
  intro k
  induction k with
  | zero => intro fn cap args h v h2 he; cases he
  | succ k ih =>
    intro fn cap args h v h2 he ρ D w fn' cap' args' S hfn hc ha
    simp only [eInv] at he
    split at he
    · rename_i f as ht
      obtain ⟨as', z1, z2⟩ := target_sim ht hfn hc ha w
      split at he
      · rename_i g hg
        cases hga : g as with
        | none => rw [hga] at he; cases he
        | some v0 =>
          rw [hga] at he
          simp only [Option.map_some, Option.some.injEq, Prod.mk.injEq] at he
          obtain ⟨rfl, rfl⟩ := he
          obtain ⟨v', y1, y2⟩ := hE.ext f g hg _ _ hga _ _ z1 w
          exact ⟨_, z2.trans y1, .inr (.inr ⟨v', rfl, y2, S⟩)⟩
      · obtain ⟨⟨g, c, hf, hb, hn⟩, hcalls⟩ := fun_sim hE ih he S z1
        exact ⟨_, z2.trans (run_callFunc_body hf hb hn _ w), .inl ⟨f, as', rfl, hcalls⟩⟩
    · rename_i l as ht
      unfold eTarget at ht
      cases hfn with
      | func f0 => simp at ht
      | yield l0 r hr =>
        simp only [Option.some.injEq, Prod.mk.injEq, true_and] at ht
        obtain ⟨rfl, rfl⟩ := ht
        exact round_sim hE ih he S ha hr cap'
      | method name =>
        simp only at ht
        split at ht
        · rename_i t v _
          cases hm : eMeth E.P t v name <;> simp_all
        · cases ht
      | methodOf t name =>
        simp only at ht
        split at ht
        · rename_i u v m h0 hu
          cases hm : eMeth E.P u v name <;> simp_all
        · cases ht
        · rename_i x d _ _ h0 hu
          cases hm : eMeth E.P t x name <;> simp_all
        · cases ht
    · cases he
/-- **A call that the evaluator answers**, in every world that its memory stands for. -/
theorem calls_sim (hE : EnvOK E) {k : Nat} {f : FuncId} {args args' : Array Value} {v : Value} {h2 : AH} (he : eFun E k (eInv E k) f args h = some (v, h2)) (S : Sim (GC E.P) E.P w0 ρ D h w) (ha : AsR ρ args args') :
    CallsIn Fence.wide 0 E.P f args' w (CallPost (GC E.P) E.P w0 ρ D v h2) := (fun_sim hE (inv_ok hE w0 k) he S ha).2
end Go.Proofs.Ev
