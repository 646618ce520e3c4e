/- A region that draws its order: the simulation. -/
import Derived.Test.YtodokclcffejfaaEv12
set_option linter.unusedVariables false
set_option linter.unusedSimpArgs false
namespace Go.Proofs.Ev
open Go Go.RowKit
variable {G : Code → Prop} {P : Program} {w0 : World} {D : List Nat}

theorem least {X : Nat → Prop} (h : ∃ j, X j) : ∃ m, X m ∧ ∀ k, k < m → ¬ X k := by
  obtain ⟨j, hj⟩ := h
  induction j using Nat.strongRecOn with
  | _ j ih =>
    by_cases hx : ∃ k, k < j ∧ X k
    · obtain ⟨k, hk, hxk⟩ := hx
      exact ih k hk hxk
    · exact ⟨j, hj, fun k hk hxk => hx ⟨k, hk, hxk⟩⟩
theorem greatest {X : Nat → Prop} {n : Nat} (h : ∃ j, X j) (hb : ∀ j, X j → j < n) : ∃ m, X m ∧ ∀ k, m < k → ¬ X k := by
  obtain ⟨m, h1, h2⟩ := least (X := fun d => ∃ j, X j ∧ j + d = n) (by obtain ⟨j, hj⟩ := h; exact ⟨n - j, j, hj, by have := hb j hj; omega⟩)
  obtain ⟨j, hj, he⟩ := h1
  refine ⟨j, hj, fun k hk hx => h2 (n - k) ?_ ⟨k, hx, ?_⟩⟩
  · have := hb k hx; omega
  · have := hb k hx; omega
theorem eval_ref {ρ : Ren} {a c : Act} {x : Operand} (hx : okOperand x = true) (ht : ∀ t, x = .tmp t → VR ρ (a.tmps.getD t unk) (c.tmps.getD t unk)) : VR ρ (a.eval x) (c.eval x) := by
  cases x with
  | tmp t => exact ht t rfl
  | const v => exact VR.reflP ρ hx
  | global g => cases hx
  | func f => exact .func _ _ _ _ _ _ (.func f) rfl (fun i v v' h1 => by simp at h1) rfl (fun i v v' h1 => by simp at h1)
theorem looks_op {ops : Array Oper} {o : Oper} {t : Tmp} (h : Operand.tmp t ∈ o.op.operands) : t ∈ looks ops o := by
  unfold looks
  exact List.mem_append_left _ (List.mem_append_left _ (List.mem_filterMap.2 ⟨.tmp t, by simpa using h, rfl⟩))
theorem looks_guard {ops : Array Oper} {o : Oper} {j : Nat} {want : Bool} {d : Tmp} (hg : o.guard = some (j, want)) (hd : (ops[j]?).bind (·.dst) = some d) : d ∈ looks ops o := by
  unfold looks
  refine List.mem_append_left _ (List.mem_append_right _ ?_)
  rw [hg]
  simp [hd]
theorem looks_dst {ops : Array Oper} {o : Oper} {d : Tmp} (hd : o.dst = some d) : d ∈ looks ops o := by
  unfold looks
  exact List.mem_append_right _ (by simp [hd])

section draw
variable {inv : Inv} {ops : Array Oper} {a a2 : Act} {h h2 : AH} {ts : List TR} {R : Tr P inv ops ops.size a h a2 h2 ts}

/-- What is read now is what was read in the text's order. -/
theorem light_now (hd : okDraw P ops = true) (hcalm : calm P ops ts = true) {ρ : Ren} {L : Nat → Prop} {p : Nat} {c : Act} {w : World} (C : At G P w0 D inv ops ops.size a h a2 h2 ts R ρ L p c w)
    {i : Nat} {o : Oper} (hi : ops[i]? = some o) (hni : ¬ L i) (hp : ∀ e ∈ o.after.toList, Region.binds .any e = true → L e.on) (hdid : (R.T i).did = true) (hl : isLight P o = true) (ho : (R.T i).o = o)
    (hv : eLight P o (R.A i).eval (R.H i) = some (R.T i).v) : eLight P o (R.A i).eval (R.H p) = some (R.T i).v := by
  have hin : i < ops.size := (Array.getElem?_eq_some_iff.1 hi).1
  cases hr : readsH o with
  | false => rw [light_quiet hl hr _ (R.H p) (R.H i)]; exact hv
  | true =>
    have hTa : (R.T i).a = R.A i := by obtain ⟨_, _, _, _, k4, _⟩ := R.spec hin; exact k4
    have hTi : (R.T i).i = i := by obtain ⟨_, _, k2, _⟩ := R.spec hin; exact k2
    have hidh : ¬ R.dh i := fun hx => by have := hx.2.2; rw [ho, hl] at this; cases this
    -- the other is unordered: what is read there is the same
    have same : ∀ j, R.dh j → ¬ (L j ↔ j < i) → eLight P o (R.A i).eval (R.T j).h = some (R.T i).v ∧ eLight P o (R.A i).eval (R.T j).h2 = some (R.T i).v := by
      intro j hj hnot
      have hjn := hj.1
      have hne : i ≠ j := by rintro rfl; exact hidh hj
      obtain ⟨oj, k1, k2, k3, _⟩ := R.spec hjn
      have hno : ordered (masks ops) i j = false := by
        cases hx : ordered (masks ops) i j with
        | false => rfl
        | true => exact absurd (ordered_listed hd C.closed hi k1 hne hni hp (.inl hx)) hnot
      have hlj : isLight P oj = false := by rw [← k3]; exact hj.2.2
      have hmem : (i, j) ∈ needs P ops := by
        unfold needs
        rw [List.mem_flatMap]
        refine ⟨i, List.mem_range.2 hin, List.mem_map.2 ⟨j, List.mem_filter.2 ⟨List.mem_range.2 hjn, ?_⟩, rfl⟩⟩
        rw [Array.getElem?_toList, Array.getElem?_toList, hi, k1]
        simp [hl, hr, hlj, hno]
      have h2 := List.all_eq_true.1 hcalm _ hmem
      simp only [R.mem i hin, R.mem j hjn, chkT, ho, hdid, hj.2.1, hTa] at h2
      simp only [Bool.not_true, Bool.false_or, Bool.and_eq_true] at h2
      exact ⟨sameO_eq h2.1, sameO_eq h2.2⟩
    by_cases hx : ∃ j, R.dh j ∧ j < i ∧ ¬ L j
    · obtain ⟨j, ⟨hj, hji, hnl⟩, hmin⟩ := least hx
      have hpj : p ≤ j := Nat.le_of_not_lt fun hc => hnl ((C.heavy j hj).2 hc)
      have hH : R.H p = R.H j := R.const' C.le (Nat.le_of_lt hj.1) fun k hk hdk => by
        rcases hk with ⟨k1, k2⟩ | ⟨k1, k2⟩
        · have hLk := C.heavy k hdk
          exact hmin k k2 ⟨hdk, by omega, fun hc => by have := hLk.1 hc; omega⟩
        · omega
      have hTh : (R.T j).h = R.H j := by obtain ⟨_, _, _, _, _, k5, _⟩ := R.spec hj.1; exact k5
      rw [hH, ← hTh]
      exact (same j hj (by simp [hji, hnl])).1
    · by_cases hy : ∃ j, R.dh j ∧ i < j ∧ L j
      · obtain ⟨j, ⟨hj, hij, hLj⟩, hmax⟩ := greatest (n := ops.size) hy (fun j hj => hj.1.1)
        have hpj : j < p := (C.heavy j hj).1 hLj
        have hjn := hj.1
        have hH : R.H p = R.H (j + 1) := R.const' C.le hjn fun k hk hdk => by
          rcases hk with ⟨k1, k2⟩ | ⟨k1, k2⟩
          · omega
          · exact hmax k (by omega) ⟨hdk, by omega, (C.heavy k hdk).2 k2⟩
        rw [hH, (R.step j hjn).2.2]
        exact (same j hj (by intro hc; have := hc.1 hLj; omega)).2
      · have hH : R.H p = R.H i := R.const' C.le (Nat.le_of_lt hin) fun k hk hdk => by
          have hLk := C.heavy k hdk
          rcases hk with ⟨k1, k2⟩ | ⟨k1, k2⟩
          · exact hx ⟨k, hdk, k2, fun hc => by have := hLk.1 hc; omega⟩
          · by_cases hki : k = i
            · subst hki; exact hidh hdk
            · exact hy ⟨k, hdk, by omega, hLk.2 k2⟩
        rw [hH]
        exact hv

theorem draw_any (hm : InvOK G P w0 inv) {F : Fence} (hF : FenceOK F) (hd : okDraw P ops = true) (hcalm : calm P ops ts = true) (hops : ∀ (i : Nat) (o : Oper), ops[i]? = some o → okOper o = true)
    {Q : Exit → Act → World → Prop} {ρ0 : Ren} {df : List Deferred}
    (hQ : ∀ ρ' c' w', ρ0.le ρ' → AsR ρ' a2.tmps c'.tmps → c'.defers = df → Sim G P w0 ρ' D h2 w' → Q .normal c' w') :
    ∀ (fuel : Nat) (listed : Array Bool) (ρ : Ren) (L : Nat → Prop) (p : Nat) (c : Act) (w : World), listed.size = ops.size → (∀ j, L j ↔ listed.getD j false = true) →
      (∃ m, m ≤ fuel ∧ ((List.range ops.size).filter fun j => !listed.getD j false).length = m) →
      At G P w0 D inv ops ops.size a h a2 h2 ts R ρ L p c w → ρ0.le ρ → c.defers = df → wpAnyIn F 0 P .any ops Q fuel listed c w := by
  -- nothing is ready: all is done
  have fin : ∀ (listed : Array Bool) (ρ : Ren) (L : Nat → Prop) (p : Nat) (c : Act) (w : World), listed.size = ops.size → (∀ j, L j ↔ listed.getD j false = true) →
      At G P w0 D inv ops ops.size a h a2 h2 ts R ρ L p c w → ρ0.le ρ → c.defers = df → Region.ready .any ops listed = [] → Q .normal c w := by
    intro listed ρ L p c w hsz hL C hle hdf hready
    have all : ∀ i, i < ops.size → L i := by
      intro i
      induction i using Nat.strongRecOn with
      | _ i ih =>
        intro hi
        refine Classical.byContradiction fun hn => ?_
        have hmem : i ∈ Region.ready .any ops listed := by
          rw [mem_ready]
          have hli : listed.getD i false = false := by
            have := mt (hL i).2 hn
            simpa using this
          refine ⟨?_, ops[i], by simp [hi], fun e he hb => ?_⟩
          · simp [hsz, hi] at hli ⊢
            exact hli
          · have hlt := okDraw_edge hd (i := i) (o := ops[i]) (by simp [hi]) e (by simpa using he) hb
            exact (hL _).1 (ih e.on hlt (by omega))
        rw [hready] at hmem
        cases hmem
    have hH : R.H p = h2 := (R.const' C.le (Nat.le_refl _) fun k hk hdk => by
        rcases hk with ⟨k1, k2⟩ | ⟨k1, k2⟩
        · have := (C.heavy k hdk).1 (all k k2); omega
        · have := C.le; omega).trans R.Hn
    have hs2 : a2.tmps.size = c.tmps.size := by rw [← R.An, R.size _ (Nat.le_refl _), C.size]
    refine hQ ρ c w hle ⟨hs2, fun t v v' h1 h2' => ?_⟩ hdf (hH ▸ C.sim)
    have htlt : t < a.tmps.size := by
      have := (Array.getElem?_eq_some_iff.1 h2').1
      rw [C.size] at this
      exact this
    obtain ⟨u, q1, q2⟩ := C.tmps t htlt
    have hA := R.slotA t htlt ops.size (Nat.le_refl _)
    rw [R.An] at hA
    have := R.slot_eq q1 hA (fun j hj _ => ⟨fun _ => hj, fun _ => all j hj⟩)
    rw [this] at q2
    simpa [h1, h2'] using q2
  intro fuel
  induction fuel with
  | zero =>
    intro listed ρ L p c w hsz hL hm0 C hle hdf
    have hr : Region.ready .any ops listed = [] := by
      obtain ⟨m, hm1, hm2⟩ := hm0
      obtain rfl : m = 0 := by omega
      rw [List.length_eq_zero_iff] at hm2
      refine List.eq_nil_iff_forall_not_mem.2 fun j hj => ?_
      obtain ⟨q1, o, q2, _⟩ := mem_ready.1 hj
      have hjn : j < ops.size := (Array.getElem?_eq_some_iff.1 q2).1
      have : j ∈ (List.range ops.size).filter fun j => !listed.getD j false := by
        rw [List.mem_filter]
        refine ⟨List.mem_range.2 hjn, ?_⟩
        simp [hsz, hjn] at q1 ⊢
        exact q1
      rw [hm2] at this
      cases this
    exact ⟨hr, fin listed ρ L p c w hsz hL C hle hdf hr⟩
  | succ fuel ih =>
    intro listed ρ L p c w hsz hL hm0 C hle hdf
    refine ⟨fin listed ρ L p c w hsz hL C hle hdf, fun i hi => ?_⟩
    obtain ⟨hun, o, ho, hpre⟩ := mem_ready.1 hi
    have hin : i < ops.size := (Array.getElem?_eq_some_iff.1 ho).1
    have hlf : listed.getD i false = false := by simp [hsz, hin] at hun ⊢; exact hun
    have hni : ¬ L i := fun hc => by have := (hL i).1 hc; rw [hlf] at this; cases this
    have hp : ∀ e ∈ o.after.toList, Region.binds .any e = true → L e.on := fun e he hb => (hL _).2 (hpre e (by simpa using he) hb)
    obtain ⟨o', k1, k2, k3, k4, k5, k6⟩ := R.spec hin
    rw [ho] at k1
    cases k1
    -- the next state's list
    have hL' : ∀ j, (L j ∨ j = i) ↔ (listed.setIfInBounds i true).getD j false = true := by
      intro j
      by_cases hji : j = i
      · subst hji
        simp [hsz, hin]
      · rw [getD_set_ne false (Ne.symm hji)]
        simp [hji, hL j]
    have hcount : ∃ m, m ≤ fuel ∧ ((List.range ops.size).filter fun j => !(listed.setIfInBounds i true).getD j false).length = m := by
      refine ⟨_, ?_, rfl⟩
      obtain ⟨m, hm1, hm2⟩ := hm0
      have hlt : ((List.range ops.size).filter fun j => !(listed.setIfInBounds i true).getD j false).length < ((List.range ops.size).filter fun j => !listed.getD j false).length := by
        have hsub : ((List.range ops.size).filter fun j => !(listed.setIfInBounds i true).getD j false) = ((List.range ops.size).filter fun j => !listed.getD j false).filter fun j => j != i := by
          rw [List.filter_filter]
          refine List.filter_congr fun j hj => ?_
          by_cases hji : j = i
          · subst hji; simp [hsz, hin]
          · rw [getD_set_ne false (Ne.symm hji)]; simp [hji]
        rw [hsub]
        refine Nat.lt_of_le_of_ne (List.length_filter_le _ _) fun heq => ?_
        have hall := List.length_filter_eq_length_iff.1 heq i (List.mem_filter.2 ⟨List.mem_range.2 hin, by rw [hlf]; rfl⟩)
        simp at hall
      omega
    have hclosed : Closed ops (fun j => L j ∨ j = i) := by
      intro j oj hj hLj e he hb
      rcases hLj with hLj | rfl
      · exact .inl (C.closed j oj hj hLj e he hb)
      · rw [ho] at hj
        cases hj
        exact .inl (hp e he hb)
    -- writers of what the operation looks at
    have writers : ∀ d, d ∈ looks ops o → ∀ j, j < ops.size → (R.T j).o.dst = some d → (L j ↔ j < i) := by
      intro d hdl j hj hdst
      by_cases hji : j = i
      · subst hji
        simp [hni]
      · obtain ⟨oj, z1, _, z3, _⟩ := R.spec hj
        rw [z3] at hdst
        exact ordered_listed hd C.closed ho z1 (Ne.symm hji) hni hp (.inr ((okDraw_pair hd z1 ho hji).2 d hdst hdl))
    have slots : ∀ d, d ∈ looks ops o → VR ρ ((R.A i).tmps.getD d unk) (c.tmps.getD d unk) := by
      intro d hdl
      by_cases hlt : d < a.tmps.size
      · obtain ⟨u, q1, q2⟩ := C.tmps d hlt
        have := R.slot_eq q1 (R.slotA d hlt i (Nat.le_of_lt hin)) (fun j hj hdst => writers d hdl j hj hdst)
        rw [← this]
        exact q2
      · rw [getD_none (by rw [R.size i (Nat.le_of_lt hin)]; exact hlt)]
        exact .unk _
    have hok := List.all_eq_true.1 (hops i o ho)
    have hE : ∀ x ∈ o.op.operands, VR ρ ((R.A i).eval x) (c.eval x) := fun x hx =>
      eval_ref (hok x (by simpa using hx)) fun t ht => slots t (looks_op (by rw [← ht]; exact hx))
    have hord : ∀ j, j < ops.size → L j → ∀ d, (R.T j).o.dst = some d → (R.T i).o.dst = some d → j < i := fun j hj hLj d q1 q2 =>
      (writers d (looks_dst (by rw [← k3]; exact q2)) j hj q1).1 hLj
    have hsza : (R.A i).tmps.size = c.tmps.size := by rw [R.size i (Nat.le_of_lt hin), C.size]
    have hguard : ∀ b, wantedE ops o (R.A i).tmps = some b → Region.wanted o (yielded ops c.tmps) = b := fun b hb =>
      wanted_slot hb fun j want d v hg hdd hv => by
        have hlt : d < c.tmps.size := by
          rw [← hsza]
          exact (Array.getElem?_eq_some_iff.1 hv).1
        have := slots d (looks_guard hg hdd)
        refine ⟨c.tmps[d], by simp [hlt], ?_⟩
        simpa [hv, hlt] using this
    unfold wpOpIn
    rw [ho]
    simp only
    -- what stays, what is new
    have again : ∀ (ρ' : Ren) (v' : Value) (w' : World) (p' : Nat), ρ.le ρ' → VR ρ' (R.T i).v v' → p' ≤ ops.size → (∀ j, R.dh j → (L j ∨ j = i ↔ j < p')) → Sim G P w0 ρ' D (R.H p') w' →
        wpAnyIn F 0 P .any ops Q fuel (listed.setIfInBounds i true) (c.put o.dst v') w' := by
      intro ρ' v' w' p' q1 q2 q3 q4 q5
      have hput := slot_put (R := R) hin hni q1 C.size C.tmps hord q2
      rw [k3] at hput
      refine ih _ ρ' (fun j => L j ∨ j = i) p' _ _ (by simpa using hsz) hL' hcount ⟨hclosed, q3, q4, q5, ?_, hput⟩ (Ren.le_trans hle q1) (by rw [put_defers]; exact hdf)
      cases o.dst with
      | none => exact C.size
      | some d => simp [Act.put]; exact C.size
    rcases k6 with ⟨j1, j2, j3, j4⟩ | ⟨j1, j2, j3⟩
    · rw [hguard false j2]
      simp only [Bool.false_eq_true, if_false]
      refine ⟨fun f _ => hF.fn f, again ρ undef w p (Ren.le_refl _) (by rw [j3]; exact .skipped) C.le (fun j hj => ?_) C.sim⟩
      have hji : j ≠ i := by rintro rfl; have := hj.2.1; rw [j1] at this; cases this
      simp [hji, C.heavy j hj]
    · rw [hguard true j2]
      simp only [if_true]
      cases hl : isLight P o with
      | true =>
        obtain ⟨q1, q2⟩ := eOp_light hl j3
        have hnow := light_now hd hcalm C ho hni hp j1 hl k3 q1
        have hop : eOp P inv o (R.A i).eval (R.H p) = some ((R.T i).v, R.H p) := by
          unfold eOp
          rw [if_pos hl, hnow]
          rfl
        refine op_sim hm hF C.sim hE hop fun ρ' v' w' z1 z2 z3 => again ρ' v' w' p z1 z2 C.le (fun j hj => ?_) z3
        have hji : j ≠ i := by rintro rfl; have := hj.2.2; rw [k3, hl] at this; cases this
        simp [hji, C.heavy j hj]
      | false =>
        have hdhi : R.dh i := ⟨hin, j1, by rw [k3]; exact hl⟩
        have hchain : ∀ k, R.dh k → k ≠ i → (L k ↔ k < i) := by
          intro k hk hki
          obtain ⟨ok, z1, _, z3, _⟩ := R.spec hk.1
          have hlk : isLight P ok = false := by rw [← z3]; exact hk.2.2
          exact ordered_listed hd C.closed ho z1 (Ne.symm hki) hni hp (.inr ((okDraw_pair hd z1 ho hki).1 hlk hl))
        have hH : R.H p = R.H i := R.const' C.le (Nat.le_of_lt hin) fun k hk hdk => by
          have hLk := C.heavy k hdk
          by_cases hki : k = i
          · subst hki
            rcases hk with ⟨z1, z2⟩ | ⟨z1, z2⟩
            · omega
            · exact hni (hLk.2 z2)
          · have := hchain k hdk hki
            rcases hk with ⟨z1, z2⟩ | ⟨z1, z2⟩
            · have := hLk.1 (this.2 z2); omega
            · have := this.1 (hLk.2 z2); omega
        have hS : Sim G P w0 ρ D (R.H i) w := hH ▸ C.sim
        refine op_sim hm hF hS hE j3 fun ρ' v' w' z1 z2 z3 => again ρ' v' w' (i + 1) z1 z2 hin (fun j hj => ?_) (by rw [(R.step i hin).2.2]; exact z3)
        by_cases hji : j = i
        · subst hji; simp
        · have := hchain j hj hji
          simp only [hji, or_false]
          rw [this]
          omega
theorem region_draw_sim (hm : InvOK G P w0 inv) {F : Fence} (hF : FenceOK F) (hmix : P.follows .mixedOrders = true) (hd : okDraw P ops = true) (hops : ∀ (i : Nat) (o : Oper), ops[i]? = some o → okOper o = true) {ρ : Ren} {w : World} {a' : Act} {id : Nat}
    (S : Sim G P w0 ρ D h w) (ha : AsR ρ a.tmps a'.tmps) (he : eTrace P inv ops (List.range ops.size) a h = some (ts, a2, h2)) (hcalm : calm P ops ts = true) {Q : Exit → Act → World → Prop}
    (hQ : ∀ ρ' c' w', ρ.le ρ' → AsR ρ' a2.tmps c'.tmps → c'.defers = a'.defers → Sim G P w0 ρ' D h2 w' → Q .normal c' w') : (Code.region id ops true).wpIn F 0 P Q a' w := by
  obtain ⟨R⟩ := eTrace_tr he
  refine wpIn_region_any hmix ?_
  have hLf : ∀ j, False ↔ (Array.replicate ops.size false).getD j false = true := by
    intro j
    simp only [Array.getD_eq_getD_getElem?, Array.getElem?_replicate, false_iff]
    split <;> simp
  refine draw_any (R := R) hm hF hd hcalm hops hQ ops.size _ ρ (fun _ => False) 0 a' _ (by simp) hLf ⟨_, Nat.le_trans (List.length_filter_le _ _) (by simp), rfl⟩
    ⟨fun j o _ hf => hf.elim, Nat.zero_le _, fun j _ => by simp, ?_, ha.1.symm, fun t ht => ⟨_, .inr ⟨fun j _ hf => hf.elim, rfl⟩, ha.getD t⟩⟩ (Ren.le_refl _) rfl
  rw [R.H0]
  exact S.drawn _
end draw
end Go.Proofs.Ev
