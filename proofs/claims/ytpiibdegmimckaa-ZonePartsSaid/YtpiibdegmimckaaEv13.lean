/- A region that draws its order: the simulation. -/
import Derived.Test.YtpiibdegmimckaaEv12
set_option linter.unusedVariables false
set_option linter.unusedSimpArgs false
namespace Go.Proofs.Ev
open Go Go.RowKit
variable {G : Code → Prop} {P : Program} {w0 : World} {D : List Mk}

theorem least {X : Nat → Prop} (h : ∃ j, X j) : ∃ m, X m ∧ ∀ k, k < m → ¬ X k := by
  obtain ⟨j, hj⟩ := h
  induction j using Nat.strongRecOn with
  | _ j ih =>
    by_cases hx : ∃ k, k < j ∧ X k
    · obtain ⟨k, hk, hxk⟩ := hx
      exact ih k hk hxk
    · exact ⟨j, hj, fun k hk hxk => hx ⟨k, hk, hxk⟩⟩
theorem greatest {X : Nat → Prop} {n : Nat} (h : ∃ j, X j) (hb : ∀ j, X j → j < n) : ∃ m, X m ∧ ∀ k, m < k → ¬ X k := by
  obtain ⟨m, h1, h2⟩ := least (X := fun d => ∃ j, X j ∧ j + d = n) (by obtain ⟨j, hj⟩ := h; exact ⟨n - j, j, hj, by have := hb j hj; omega⟩)
  obtain ⟨j, hj, he⟩ := h1
  refine ⟨j, hj, fun k hk hx => h2 (n - k) ?_ ⟨k, hx, ?_⟩⟩
  · have := hb k hx; omega
  · have := hb k hx; omega
theorem eval_ref {ρ : Ren} {a c : Act} {x : Operand} (hx : okOperand x = true) (ht : ∀ t, x = .tmp t → VR ρ (a.tmps.getD t unk) (c.tmps.getD t unk)) : VR ρ (a.eval x) (c.eval x) := by
  cases x with
  | tmp t => exact ht t rfl
  | const v => exact VR.reflP ρ hx
  | global g => cases hx
  | func f => exact .func _ _ _ _ _ _ (.func f) rfl (fun i v v' h1 => by simp at h1) rfl (fun i v v' h1 => by simp at h1)
theorem looks_op {ops : Array Oper} {o : Oper} {t : Tmp} (h : Operand.tmp t ∈ o.op.operands) : t ∈ looks ops o := by
  unfold looks
  exact List.mem_append_left _ (List.mem_append_left _ (List.mem_filterMap.2 ⟨.tmp t, by simpa using h, rfl⟩))
theorem looks_guard {ops : Array Oper} {o : Oper} {j : Nat} {want : Bool} {d : Tmp} (hg : o.guard = some (j, want)) (hd : (ops[j]?).bind (·.dst) = some d) : d ∈ looks ops o := by
  unfold looks
  refine List.mem_append_left _ (List.mem_append_right _ ?_)
  rw [hg]
  simp [hd]
theorem looks_dst {ops : Array Oper} {o : Oper} {d : Tmp} (hd : o.dst = some d) : d ∈ looks ops o := by
  unfold looks
  exact List.mem_append_right _ (by simp [hd])

section draw
variable {inv : Inv} {ops : Array Oper} {a a2 : Act} {h h2 : AH} {ts : List TR} {R : Tr P inv ops ops.size a h a2 h2 ts}

theorem looseAt_spec {ops : Array Oper} {i : Nat} (h : looseAt P ops (masks ops) i = true) : ∃ o, ops[i]? = some o ∧ freshOp o = true ∧ ∀ k, ((masks ops).getD i 0).testBit k = true → ∀ x, ops[k]? = some x → lightQuiet P x = true := by
  unfold looseAt at h
  rw [Array.getElem?_toList] at h
  cases ho : ops[i]? with
  | none => rw [ho] at h; cases h
  | some o =>
    rw [ho] at h
    simp only [Bool.and_eq_true] at h
    refine ⟨o, rfl, h.1.1, fun k hk x hx => ?_⟩
    have hk' : k < ops.size := (Array.getElem?_eq_some_iff.1 hx).1
    have := List.all_eq_true.1 h.2 k (List.mem_range.2 hk')
    rw [Array.getElem?_toList, hx] at this
    have hk2 : ((masks ops)[i]?.getD 0).testBit k = true := by simpa using hk
    simpa [hk2] using this
/-- What is read now is what was read in the text's order. -/
theorem light_now (hd : okDraw P ops = true) (hcalm : calm P ops ts = true) {ρ : Ren} {L : Nat → Prop} {p : Nat} {X : List Nat} {c : Act} {w : World} (C : At G P w0 D inv ops ops.size a h a2 h2 ts R ρ L p X c w)
    {i : Nat} {o : Oper} (hi : ops[i]? = some o) (hni : ¬ L i) (hp : ∀ e ∈ o.after.toList, Region.binds .any e = true → L e.on) (hdid : (R.T i).did = true) (hl : isLight P o = true) (ho : (R.T i).o = o)
    (hv : eLight P o (R.A i).eval (R.H i) = some (R.T i).v) : eLight P o (R.A i).eval (R.H p) = some (R.T i).v := by
  have hin : i < ops.size := (Array.getElem?_eq_some_iff.1 hi).1
  cases hr : readsH o with
  | false => rw [light_quiet hl hr _ (R.H p) (R.H i)]; exact hv
  | true =>
    have hTa : (R.T i).a = R.A i := by obtain ⟨_, _, _, _, k4, _⟩ := R.spec hin; exact k4
    have hTi : (R.T i).i = i := by obtain ⟨_, _, k2, _⟩ := R.spec hin; exact k2
    have hidh : ¬ R.dh i := fun hx => by have := hx.2.2; rw [ho, hl] at this; cases this
    -- the other is unordered: what is read there is the same
    have same : ∀ j, R.dh j → ordered (masks ops) i j = false → eLight P o (R.A i).eval (R.T j).h = some (R.T i).v ∧ eLight P o (R.A i).eval (R.T j).h2 = some (R.T i).v := by
      intro j hj hno
      have hjn := hj.1
      obtain ⟨oj, k1, k2, k3, _⟩ := R.spec hjn
      have hlj : isLight P oj = false := by rw [← k3]; exact hj.2.2
      have hmem : (i, j) ∈ needs P ops := by
        unfold needs
        rw [List.mem_flatMap]
        refine ⟨i, List.mem_range.2 hin, List.mem_map.2 ⟨j, List.mem_filter.2 ⟨List.mem_range.2 hjn, ?_⟩, rfl⟩⟩
        rw [Array.getElem?_toList, Array.getElem?_toList, hi, k1]
        simp [hl, hr, hlj, hno]
      have h2 := List.all_eq_true.1 hcalm _ hmem
      simp only [R.mem i hin, R.mem j hjn, chkT, ho, hdid, hj.2.1, hTa] at h2
      simp only [Bool.not_true, Bool.false_or, Bool.and_eq_true] at h2
      exact ⟨sameO_eq h2.1, sameO_eq h2.2⟩
    -- whatever lies between is unordered
    have free : ∀ j, R.dh j → ((p ≤ j ∧ j < i) ∨ (i < j ∧ j < p)) → ordered (masks ops) i j = false := by
      intro j hj hb
      have hne : i ≠ j := by rintro rfl; exact hidh hj
      obtain ⟨oj, k1, _⟩ := R.spec hj.1
      obtain ⟨q1, q2⟩ := C.heavy j hj
      cases hx : ordered (masks ops) i j with
      | false => rfl
      | true =>
        exfalso
        have hli := ordered_listed hd C.closed hi k1 hne hni hp (.inl hx)
        rcases hb with ⟨b1, b2⟩ | ⟨b1, b2⟩
        · have := q1 (hli.2 b2); omega
        · rcases q2 b2 with hL | hL
          · have := hli.1 hL; omega
          · obtain ⟨_, _, _, hm⟩ := looseAt_spec hL
            unfold ordered at hx
            simp only [Bool.or_eq_true, beq_iff_eq, hne, false_or] at hx
            rcases hx with hx | hx
            · have := mask_lt hd hi hx; omega
            · have := hm i hx o hi
              simp [lightQuiet, hr] at this
    by_cases hx : ∃ j, R.dh j ∧ p ≤ j ∧ j < i
    · obtain ⟨j, ⟨hj, hpj, hji⟩, hmin⟩ := least hx
      have hH : R.H p = R.H j := R.const' C.le (Nat.le_of_lt hj.1) fun k hk hdk => by
        rcases hk with ⟨k1, k2⟩ | ⟨k1, k2⟩
        · exact hmin k k2 ⟨hdk, k1, by omega⟩
        · omega
      have hTh : (R.T j).h = R.H j := by obtain ⟨_, _, _, _, _, k5, _⟩ := R.spec hj.1; exact k5
      rw [hH, ← hTh]
      exact (same j hj (free j hj (.inl ⟨hpj, hji⟩))).1
    · by_cases hy : ∃ j, R.dh j ∧ i < j ∧ j < p
      · obtain ⟨j, ⟨hj, hij, hjp⟩, hmax⟩ := greatest (n := ops.size) hy (fun j hj => hj.1.1)
        have hjn := hj.1
        have hH : R.H p = R.H (j + 1) := R.const' C.le hjn fun k hk hdk => by
          rcases hk with ⟨k1, k2⟩ | ⟨k1, k2⟩
          · omega
          · exact hmax k (by omega) ⟨hdk, by omega, by omega⟩
        rw [hH, (R.step j hjn).2.2]
        exact (same j hj (free j hj (.inr ⟨hij, hjp⟩))).2
      · have hH : R.H p = R.H i := R.const' C.le (Nat.le_of_lt hin) fun k hk hdk => by
          rcases hk with ⟨k1, k2⟩ | ⟨k1, k2⟩
          · exact hx ⟨k, hdk, k1, k2⟩
          · by_cases hki : k = i
            · subst hki; exact hidh hdk
            · exact hy ⟨k, hdk, by omega, k2⟩
        rw [hH]
        exact hv
/-- What a new row adds to memory, in the text's run. -/
theorem Tr.fresh (R : Tr P inv ops ops.size a h a2 h2 ts) {j : Nat} (hj : R.dh j) (hl : looseAt P ops (masks ops) j = true) : ∃ ob, R.H (j + 1) = (R.H j).alloc ob ∧ R.mark j = .late (R.H j).n ob := by
  obtain ⟨o, k1, k2, k3, k4, k5, k6⟩ := R.spec hj.1
  obtain ⟨o', l1, l2, _⟩ := looseAt_spec hl
  rw [k1] at l1
  cases l1
  rcases k6 with ⟨q, _⟩ | ⟨_, _, q⟩
  · rw [hj.2.1] at q; cases q
  · obtain ⟨ob, hob⟩ := fresh_form l2 q
    have hH : R.H (j + 1) = (R.H j).alloc ob := by rw [(R.step j hj.1).2.2, hob]
    refine ⟨ob, hH, ?_⟩
    unfold Tr.mark
    rw [hH, AH.get_alloc_new]
    rfl
/-- On to an operation, the new rows ahead of it left to be made. -/
theorem At.skip {ρ : Ren} {L : Nat → Prop} {c : Act} {w : World} {i : Nat} (hi : i ≤ ops.size) (m : Nat) : ∀ {p : Nat} {X : List Nat}, p + m = i → (∀ j, R.dh j → p ≤ j → j < i → ¬ L j ∧ looseAt P ops (masks ops) j = true) →
    At G P w0 D inv ops ops.size a h a2 h2 ts R ρ L p X c w → ∃ X', At G P w0 D inv ops ops.size a h a2 h2 ts R ρ L i X' c w := by
  induction m with
  | zero => intro p X hp _ C; obtain rfl : p = i := by omega
            exact ⟨X, C⟩
  | succ m ih =>
    intro p X hp hno C
    by_cases hd : R.dh p
    · obtain ⟨n1, n2⟩ := hno p hd (Nat.le_refl _) (by omega)
      obtain ⟨ob, hH, hmk⟩ := R.fresh hd n2
      refine ih (p := p + 1) (X := p :: X) (by omega) (fun j hj q1 q2 => hno j hj (by omega) q2) ⟨C.closed, by omega, fun j hj => ⟨fun q => by have := (C.heavy j hj).1 q; omega, fun q => ?_⟩, fun j => ?_, ?_, C.size, C.tmps⟩
      · by_cases hjp : j = p
        · subst hjp; exact .inr n2
        · exact (C.heavy j hj).2 (by omega)
      · rw [List.mem_cons, C.pend j]
        constructor
        · rintro (rfl | ⟨q1, q2, q3⟩)
          · exact ⟨hd, by omega, n1⟩
          · exact ⟨q1, by omega, q3⟩
        · rintro ⟨q1, q2, q3⟩
          by_cases hjp : j = p
          · exact .inl hjp
          · exact .inr ⟨q1, by omega, q3⟩
      · rw [List.map_cons, List.cons_append, hmk, hH]
        exact C.sim.reserve ob
    · have hH : R.H (p + 1) = R.H p := R.const 1 p (by omega) fun k q1 q2 hk => by
        obtain rfl : k = p := by omega
        exact hd hk
      refine ih (p := p + 1) (X := X) (by omega) (fun j hj q1 q2 => hno j hj (by omega) q2) ⟨C.closed, by omega, fun j hj => ⟨fun q => by have := (C.heavy j hj).1 q; omega, fun q => ?_⟩, fun j => ?_, ?_, C.size, C.tmps⟩
      · have hjp : j ≠ p := by rintro rfl; exact hd hj
        exact (C.heavy j hj).2 (by omega)
      · rw [C.pend j]
        constructor
        · rintro ⟨q1, q2, q3⟩; exact ⟨q1, by omega, q3⟩
        · rintro ⟨q1, q2, q3⟩
          have hjp : j ≠ p := by rintro rfl; exact hd q1
          exact ⟨q1, by omega, q3⟩
      · rw [hH]; exact C.sim

theorem draw_any (hm : InvOK G P w0 inv) {F : Fence} (hF : FenceOK F) (hd : okDraw P ops = true) (hcalm : calm P ops ts = true) (hops : ∀ (i : Nat) (o : Oper), ops[i]? = some o → okOper o = true)
    {Q : Exit → Act → World → Prop} {ρ0 : Ren} {df : List Deferred}
    (hQ : ∀ ρ' c' w', ρ0.le ρ' → AsR ρ' a2.tmps c'.tmps → c'.defers = df → Sim G P w0 ρ' D h2 w' → Q .normal c' w') :
    ∀ (fuel : Nat) (listed : Array Bool) (ρ : Ren) (L : Nat → Prop) (p : Nat) (X : List Nat) (c : Act) (w : World), listed.size = ops.size → (∀ j, L j ↔ listed.getD j false = true) →
      (∃ m, m ≤ fuel ∧ ((List.range ops.size).filter fun j => !listed.getD j false).length = m) →
      At G P w0 D inv ops ops.size a h a2 h2 ts R ρ L p X c w → ρ0.le ρ → c.defers = df → wpAnyIn F 0 P .any ops Q fuel listed c w := by
  -- nothing is ready: all is done
  have fin : ∀ (listed : Array Bool) (ρ : Ren) (L : Nat → Prop) (p : Nat) (X : List Nat) (c : Act) (w : World), listed.size = ops.size → (∀ j, L j ↔ listed.getD j false = true) →
      At G P w0 D inv ops ops.size a h a2 h2 ts R ρ L p X c w → ρ0.le ρ → c.defers = df → Region.ready .any ops listed = [] → Q .normal c w := by
    intro listed ρ L p X c w hsz hL C hle hdf hready
    have all : ∀ i, i < ops.size → L i := by
      intro i
      induction i using Nat.strongRecOn with
      | _ i ih =>
        intro hi
        refine Classical.byContradiction fun hn => ?_
        have hmem : i ∈ Region.ready .any ops listed := by
          rw [mem_ready]
          have hli : listed.getD i false = false := by
            have := mt (hL i).2 hn
            simpa using this
          refine ⟨?_, ops[i], by simp [hi], fun e he hb => ?_⟩
          · simp [hsz, hi] at hli ⊢
            exact hli
          · have hlt := okDraw_edge hd (i := i) (o := ops[i]) (by simp [hi]) e (by simpa using he) hb
            exact (hL _).1 (ih e.on hlt (by omega))
        rw [hready] at hmem
        cases hmem
    have hH : R.H p = h2 := (R.const' C.le (Nat.le_refl _) fun k hk hdk => by
        rcases hk with ⟨k1, k2⟩ | ⟨k1, k2⟩
        · have := (C.heavy k hdk).1 (all k hdk.1); omega
        · have := C.le; omega).trans R.Hn
    have hs2 : a2.tmps.size = c.tmps.size := by rw [← R.An, R.size _ (Nat.le_refl _), C.size]
    have hX : X = [] := List.eq_nil_iff_forall_not_mem.2 fun j hj => by
      obtain ⟨q1, _, q3⟩ := (C.pend j).1 hj
      exact q3 (all j q1.1)
    have hS := C.sim
    rw [hX, hH] at hS
    refine hQ ρ c w hle ⟨hs2, fun t v v' h1 h2' => ?_⟩ hdf hS
    have htlt : t < a.tmps.size := by
      have := (Array.getElem?_eq_some_iff.1 h2').1
      rw [C.size] at this
      exact this
    obtain ⟨u, q1, q2⟩ := C.tmps t htlt
    have hA := R.slotA t htlt ops.size (Nat.le_refl _)
    rw [R.An] at hA
    have := R.slot_eq q1 hA (fun j hj _ => ⟨fun _ => hj, fun _ => all j hj⟩)
    rw [this] at q2
    simpa [h1, h2'] using q2
  intro fuel
  induction fuel with
  | zero =>
    intro listed ρ L p X c w hsz hL hm0 C hle hdf
    have hr : Region.ready .any ops listed = [] := by
      obtain ⟨m, hm1, hm2⟩ := hm0
      obtain rfl : m = 0 := by omega
      rw [List.length_eq_zero_iff] at hm2
      refine List.eq_nil_iff_forall_not_mem.2 fun j hj => ?_
      obtain ⟨q1, o, q2, _⟩ := mem_ready.1 hj
      have hjn : j < ops.size := (Array.getElem?_eq_some_iff.1 q2).1
      have : j ∈ (List.range ops.size).filter fun j => !listed.getD j false := by
        rw [List.mem_filter]
        refine ⟨List.mem_range.2 hjn, ?_⟩
        simp [hsz, hjn] at q1 ⊢
        exact q1
      rw [hm2] at this
      cases this
    exact ⟨hr, fin listed ρ L p X c w hsz hL C hle hdf hr⟩
  | succ fuel ih =>
    intro listed ρ L p X c w hsz hL hm0 C hle hdf
    refine ⟨fin listed ρ L p X c w hsz hL C hle hdf, fun i hi => ?_⟩
    obtain ⟨hun, o, ho, hpre⟩ := mem_ready.1 hi
    have hin : i < ops.size := (Array.getElem?_eq_some_iff.1 ho).1
    have hlf : listed.getD i false = false := by simp [hsz, hin] at hun ⊢; exact hun
    have hni : ¬ L i := fun hc => by have := (hL i).1 hc; rw [hlf] at this; cases this
    have hp : ∀ e ∈ o.after.toList, Region.binds .any e = true → L e.on := fun e he hb => (hL _).2 (hpre e (by simpa using he) hb)
    obtain ⟨o', k1, k2, k3, k4, k5, k6⟩ := R.spec hin
    rw [ho] at k1
    cases k1
    -- the next state's list
    have hL' : ∀ j, (L j ∨ j = i) ↔ (listed.setIfInBounds i true).getD j false = true := by
      intro j
      by_cases hji : j = i
      · subst hji
        simp [hsz, hin]
      · rw [getD_set_ne false (Ne.symm hji)]
        simp [hji, hL j]
    have hcount : ∃ m, m ≤ fuel ∧ ((List.range ops.size).filter fun j => !(listed.setIfInBounds i true).getD j false).length = m := by
      refine ⟨_, ?_, rfl⟩
      obtain ⟨m, hm1, hm2⟩ := hm0
      have hlt : ((List.range ops.size).filter fun j => !(listed.setIfInBounds i true).getD j false).length < ((List.range ops.size).filter fun j => !listed.getD j false).length := by
        have hsub : ((List.range ops.size).filter fun j => !(listed.setIfInBounds i true).getD j false) = ((List.range ops.size).filter fun j => !listed.getD j false).filter fun j => j != i := by
          rw [List.filter_filter]
          refine List.filter_congr fun j hj => ?_
          by_cases hji : j = i
          · subst hji; simp [hsz, hin]
          · rw [getD_set_ne false (Ne.symm hji)]; simp [hji]
        rw [hsub]
        refine Nat.lt_of_le_of_ne (List.length_filter_le _ _) fun heq => ?_
        have hall := List.length_filter_eq_length_iff.1 heq i (List.mem_filter.2 ⟨List.mem_range.2 hin, by rw [hlf]; rfl⟩)
        simp at hall
      omega
    have hclosed : Closed ops (fun j => L j ∨ j = i) := by
      intro j oj hj hLj e he hb
      rcases hLj with hLj | rfl
      · exact .inl (C.closed j oj hj hLj e he hb)
      · rw [ho] at hj
        cases hj
        exact .inl (hp e he hb)
    -- writers of what the operation looks at
    have writers : ∀ d, d ∈ looks ops o → ∀ j, j < ops.size → (R.T j).o.dst = some d → (L j ↔ j < i) := by
      intro d hdl j hj hdst
      by_cases hji : j = i
      · subst hji
        simp [hni]
      · obtain ⟨oj, z1, _, z3, _⟩ := R.spec hj
        rw [z3] at hdst
        exact ordered_listed hd C.closed ho z1 (Ne.symm hji) hni hp (.inr ((okDraw_pair hd z1 ho hji).2 d hdst hdl))
    have slots : ∀ d, d ∈ looks ops o → VR ρ ((R.A i).tmps.getD d unk) (c.tmps.getD d unk) := by
      intro d hdl
      by_cases hlt : d < a.tmps.size
      · obtain ⟨u, q1, q2⟩ := C.tmps d hlt
        have := R.slot_eq q1 (R.slotA d hlt i (Nat.le_of_lt hin)) (fun j hj hdst => writers d hdl j hj hdst)
        rw [← this]
        exact q2
      · rw [getD_none (by rw [R.size i (Nat.le_of_lt hin)]; exact hlt)]
        exact .unk _
    have hok := List.all_eq_true.1 (hops i o ho)
    have hE : ∀ x ∈ o.op.operands, VR ρ ((R.A i).eval x) (c.eval x) := fun x hx =>
      eval_ref (hok x (by simpa using hx)) fun t ht => slots t (looks_op (by rw [← ht]; exact hx))
    have hord : ∀ j, j < ops.size → L j → ∀ d, (R.T j).o.dst = some d → (R.T i).o.dst = some d → j < i := fun j hj hLj d q1 q2 =>
      (writers d (looks_dst (by rw [← k3]; exact q2)) j hj q1).1 hLj
    have hsza : (R.A i).tmps.size = c.tmps.size := by rw [R.size i (Nat.le_of_lt hin), C.size]
    have hguard : ∀ b, wantedE ops o (R.A i).tmps = some b → Region.wanted o (yielded ops c.tmps) = b := fun b hb =>
      wanted_slot hb fun j want d v hg hdd hv => by
        have hlt : d < c.tmps.size := by
          rw [← hsza]
          exact (Array.getElem?_eq_some_iff.1 hv).1
        have := slots d (looks_guard hg hdd)
        refine ⟨c.tmps[d], by simp [hlt], ?_⟩
        simpa [hv, hlt] using this
    unfold wpOpIn
    rw [ho]
    simp only
    -- what stays, what is new
    have again : ∀ (ρ' : Ren) (v' : Value) (w' : World) (p' : Nat) (X' : List Nat), ρ.le ρ' → VR ρ' (R.T i).v v' → p' ≤ ops.size → (∀ j, R.dh j → (L j ∨ j = i → j < p') ∧ (j < p' → (L j ∨ j = i) ∨ looseAt P ops (masks ops) j = true)) →
        (∀ j, j ∈ X' ↔ R.dh j ∧ j < p' ∧ ¬ (L j ∨ j = i)) → Sim G P w0 ρ' (X'.map R.mark ++ D) (R.H p') w' →
        wpAnyIn F 0 P .any ops Q fuel (listed.setIfInBounds i true) (c.put o.dst v') w' := by
      intro ρ' v' w' p' X' q1 q2 q3 q4 q6 q5
      have hput := slot_put (R := R) hin hni q1 C.size C.tmps hord q2
      rw [k3] at hput
      refine ih _ ρ' (fun j => L j ∨ j = i) p' X' _ _ (by simpa using hsz) hL' hcount ⟨hclosed, q3, q4, q6, q5, ?_, hput⟩ (Ren.le_trans hle q1) (by rw [put_defers]; exact hdf)
      cases o.dst with
      | none => exact C.size
      | some d => simp [Act.put]; exact C.size
    -- nothing heavy was carried out
    have stay : (∀ j, R.dh j → j ≠ i) → (∀ j, R.dh j → (L j ∨ j = i → j < p) ∧ (j < p → (L j ∨ j = i) ∨ looseAt P ops (masks ops) j = true)) ∧ (∀ j, j ∈ X ↔ R.dh j ∧ j < p ∧ ¬ (L j ∨ j = i)) := by
      intro hne
      refine ⟨fun j hj => ⟨fun q => (C.heavy j hj).1 (q.resolve_right (hne j hj)), fun q => ((C.heavy j hj).2 q).imp .inl id⟩, fun j => ?_⟩
      rw [C.pend j]
      constructor
      · rintro ⟨q1, q2, q3⟩; exact ⟨q1, q2, fun q => q.elim q3 (hne j q1)⟩
      · rintro ⟨q1, q2, q3⟩; exact ⟨q1, q2, fun q => q3 (.inl q)⟩
    rcases k6 with ⟨j1, j2, j3, j4⟩ | ⟨j1, j2, j3⟩
    · rw [hguard false j2]
      simp only [Bool.false_eq_true, if_false]
      obtain ⟨s1, s2⟩ := stay fun j hj => by rintro rfl; have := hj.2.1; rw [j1] at this; cases this
      exact ⟨fun f _ => hF.fn f, again ρ undef w p X (Ren.le_refl _) (by rw [j3]; exact .skipped) C.le s1 s2 C.sim⟩
    · rw [hguard true j2]
      simp only [if_true]
      cases hl : isLight P o with
      | true =>
        obtain ⟨q1, q2⟩ := eOp_light hl j3
        have hnow := light_now hd hcalm C ho hni hp j1 hl k3 q1
        have hop : eOp P inv o (R.A i).eval (R.H p) = some ((R.T i).v, R.H p) := by
          unfold eOp
          rw [if_pos hl, hnow]
          rfl
        obtain ⟨s1, s2⟩ := stay fun j hj => by rintro rfl; have := hj.2.2; rw [k3, hl] at this; cases this
        exact op_sim hm hF C.sim hE hop fun ρ' v' w' z1 z2 z3 => again ρ' v' w' p X z1 z2 C.le s1 s2 z3
      | false =>
        have hdhi : R.dh i := ⟨hin, j1, by rw [k3]; exact hl⟩
        by_cases hip : i < p
        · -- made late
          have hli : looseAt P ops (masks ops) i = true := ((C.heavy i hdhi).2 hip).resolve_left hni
          obtain ⟨ob, hH, hmk⟩ := R.fresh hdhi hli
          obtain ⟨o'', l1, l2, _⟩ := looseAt_spec hli
          rw [ho] at l1
          cases l1
          have hiX : i ∈ X := (C.pend i).2 ⟨hdhi, hip, hni⟩
          have hnd := C.sim.nodup
          have hsub : ∀ x ∈ (X.filter (· != i)).map R.mark ++ D, x ∈ X.map R.mark ++ D := fun x hx => by
            rcases List.mem_append.1 hx with hx | hx
            · obtain ⟨j, hj, rfl⟩ := List.mem_map.1 hx
              exact List.mem_append_left _ (List.mem_map.2 ⟨j, (List.mem_filter.1 hj).1, rfl⟩)
            · exact List.mem_append_right _ hx
          have hsl : (X.filter (· != i)).Sublist X := List.filter_sublist
          have hnd2 : (((X.filter (· != i)).map R.mark ++ D).map Mk.key).Nodup :=
            List.Nodup.sublist (List.Sublist.map _ (List.Sublist.append_right (List.Sublist.map _ hsl) D)) hnd
          -- the mark's place is no other's
          have hnl : ¬ Late ((X.filter (· != i)).map R.mark ++ D) (R.H i).n := by
            rintro ⟨o1, ho1⟩
            obtain ⟨l, r, hX⟩ := List.append_of_mem hiX
            have hnd' := hnd
            rw [hX] at hnd'
            simp only [List.map_append, List.map_cons, List.append_assoc, List.cons_append] at hnd'
            have hki : Mk.key (R.mark i) = 2 * (R.H i).n + 1 := by rw [hmk]; rfl
            have hno : ∀ x : Mk, (x ∈ l.map R.mark ∨ x ∈ r.map R.mark ∨ x ∈ D) → Mk.key x ≠ 2 * (R.H i).n + 1 := by
              intro x hx he
              have n1 := List.nodup_append.1 hnd'
              have n2 := List.nodup_cons.1 n1.2.1
              rw [hki] at n1 n2
              rcases hx with hx | hx | hx
              · exact n1.2.2 _ (List.mem_map.2 ⟨x, hx, rfl⟩) _ (List.mem_cons_self) he
              · refine n2.1 (List.mem_append_left _ ?_)
                rw [← he]
                exact List.mem_map.2 ⟨x, hx, rfl⟩
              · refine n2.1 (List.mem_append_right _ ?_)
                rw [← he]
                exact List.mem_map.2 ⟨x, hx, rfl⟩
            rcases List.mem_append.1 ho1 with h1 | h1
            · obtain ⟨j, hj, hje⟩ := List.mem_map.1 h1
              obtain ⟨hj1, hj2⟩ := List.mem_filter.1 hj
              rw [hX] at hj1
              have hji : j ≠ i := by simpa using hj2
              refine hno (R.mark j) ?_ (by rw [hje]; rfl)
              rcases List.mem_append.1 hj1 with q | q
              · exact .inl (List.mem_map.2 ⟨j, q, rfl⟩)
              · rcases List.mem_cons.1 q with q | q
                · exact absurd q hji
                · exact .inr (.inl (List.mem_map.2 ⟨j, q, rfl⟩))
            · exact hno _ (.inr (.inr h1)) rfl
          have hob : (R.T i).h2 = (R.H i).alloc ob := by rw [← (R.step i hin).2.2]; exact hH
          refine op_settle hF C.sim hE l2 j3 hob (by rw [← hmk]; exact List.mem_append_left _ (List.mem_map.2 ⟨i, hiX, rfl⟩)) hsub (fun x hx => ?_) hnd2 hnl fun ρ' v' w' z1 z2 z3 => again ρ' v' w' p (X.filter (· != i)) z1 z2 C.le (fun j hj => ?_) (fun j => ?_) z3
          · rcases List.mem_append.1 hx with hx | hx
            · obtain ⟨j, hj, rfl⟩ := List.mem_map.1 hx
              by_cases hji : j = i
              · subst hji; exact .inr ⟨ob, hmk⟩
              · exact .inl (List.mem_append_left _ (List.mem_map.2 ⟨j, List.mem_filter.2 ⟨hj, by simpa using hji⟩, rfl⟩))
            · exact .inl (List.mem_append_right _ hx)
          · refine ⟨fun q => ?_, fun q => ((C.heavy j hj).2 q).imp .inl id⟩
            rcases q with q | rfl
            · exact (C.heavy j hj).1 q
            · exact hip
          · rw [List.mem_filter, C.pend j]
            constructor
            · rintro ⟨⟨q1, q2, q3⟩, q4⟩; exact ⟨q1, q2, fun q => q.elim q3 (by simpa using q4)⟩
            · rintro ⟨q1, q2, q3⟩; exact ⟨⟨q1, q2, fun q => q3 (.inl q)⟩, by simpa using fun q => q3 (.inr q)⟩
        · have hip' : p ≤ i := Nat.le_of_not_lt hip
          have hbetween : ∀ k, R.dh k → p ≤ k → k < i → ¬ L k ∧ looseAt P ops (masks ops) k = true := by
            intro k hk hpk hki
            have hnL : ¬ L k := fun q => by have := (C.heavy k hk).1 q; omega
            refine ⟨hnL, ?_⟩
            obtain ⟨ok, z1, _, z3, _⟩ := R.spec hk.1
            have hlk : isLight P ok = false := by rw [← z3]; exact hk.2.2
            have hne : k ≠ i := by omega
            rcases (okDraw_pair hd z1 ho hne).1 hlk hl with hor | hlo
            · exact absurd ((ordered_listed hd C.closed ho z1 (Ne.symm hne) hni hp (.inr hor)).2 hki) hnL
            · rwa [Nat.min_eq_left (Nat.le_of_lt hki)] at hlo
          obtain ⟨X', C'⟩ := C.skip (i := i) (Nat.le_of_lt hin) (i - p) (by omega) hbetween
          refine op_sim hm hF C'.sim hE j3 fun ρ' v' w' z1 z2 z3 => again ρ' v' w' (i + 1) X' z1 z2 hin (fun j hj => ?_) (fun j => ?_) (by rw [(R.step i hin).2.2]; exact z3)
          · refine ⟨fun q => ?_, fun q => ?_⟩
            · rcases q with q | rfl
              · have := (C'.heavy j hj).1 q; omega
              · omega
            · by_cases hji : j = i
              · exact .inl (.inr hji)
              · exact ((C'.heavy j hj).2 (by omega)).imp .inl id
          · rw [C'.pend j]
            constructor
            · rintro ⟨q1, q2, q3⟩; exact ⟨q1, by omega, fun q => q.elim q3 (by omega)⟩
            · rintro ⟨q1, q2, q3⟩; exact ⟨q1, by have : j ≠ i := fun q => q3 (.inr q); omega, fun q => q3 (.inl q)⟩
theorem region_draw_any (hm : InvOK G P w0 inv) {F : Fence} (hF : FenceOK F) (hd : okDraw P ops = true) (hops : ∀ (i : Nat) (o : Oper), ops[i]? = some o → okOper o = true) {ρ : Ren} {w : World} {a' : Act}
    (S : Sim G P w0 ρ D h w) (ha : AsR ρ a.tmps a'.tmps) (he : eTrace P inv ops (List.range ops.size) a h = some (ts, a2, h2)) (hcalm : calm P ops ts = true) {Q : Exit → Act → World → Prop}
    (hQ : ∀ ρ' c' w', ρ.le ρ' → AsR ρ' a2.tmps c'.tmps → c'.defers = a'.defers → Sim G P w0 ρ' D h2 w' → Q .normal c' w') : wpAnyIn F 0 P .any ops Q ops.size (Array.replicate ops.size false) a' w := by
  obtain ⟨R⟩ := eTrace_tr he
  have hLf : ∀ j, False ↔ (Array.replicate ops.size false).getD j false = true := by
    intro j
    simp only [Array.getD_eq_getD_getElem?, Array.getElem?_replicate, false_iff]
    split <;> simp
  refine draw_any (R := R) hm hF hd hcalm hops hQ ops.size _ ρ (fun _ => False) 0 [] a' _ (by simp) hLf ⟨_, Nat.le_trans (List.length_filter_le _ _) (by simp), rfl⟩
    ⟨fun j o _ hf => hf.elim, Nat.zero_le _, fun j _ => by simp, fun j => by simp, ?_, ha.1.symm, fun t ht => ⟨_, .inr ⟨fun j _ hf => hf.elim, rfl⟩, ha.getD t⟩⟩ (Ren.le_refl _) rfl
  rw [R.H0]
  exact S
end draw
/-! ### The operations in another order -/
section perm
variable {π : List Nat} {ops : Array Oper}
theorem okPerm_spec {n : Nat} (h : okPerm π n = true) : π.length = n ∧ ∀ i, i < n → π.idxOf (π.getD i n) = i ∧ π.getD (π.idxOf i) n = i ∧ π.idxOf i < n ∧ π.getD i n < n := by
  unfold okPerm at h
  simp only [Bool.and_eq_true, beq_iff_eq] at h
  refine ⟨h.1, fun i hi => ?_⟩
  have := List.all_eq_true.1 h.2 i (List.mem_range.2 hi)
  simp only [Bool.and_eq_true, beq_iff_eq, decide_eq_true_eq] at this
  exact ⟨this.1.1.1, this.1.1.2, this.1.2, this.2⟩
theorem okPerm_lt {n : Nat} (h : okPerm π n = true) {j : Nat} (hj : π.idxOf j < n) : j < n := by
  obtain ⟨h1, h2⟩ := okPerm_spec h
  have hm : j ∈ π := List.idxOf_lt_length_iff.1 (by rw [h1]; exact hj)
  obtain ⟨k, hk, he⟩ := List.getElem_of_mem hm
  have := (h2 k (by omega)).2.2.2
  rw [List.getD_eq_getElem?_getD, List.getElem?_eq_getElem hk, he] at this
  exact this
theorem permOps_size (h : okPerm π ops.size = true) : (permOps π ops).size = ops.size := by simp [permOps, (okPerm_spec h).1]
theorem permOps_get (h : okPerm π ops.size = true) {i : Nat} (hi : i < ops.size) {o : Oper} (ho : ops[i]? = some o) : (permOps π ops)[π.idxOf i]? = some (movedOp π o) := by
  obtain ⟨h1, h2⟩ := okPerm_spec h
  obtain ⟨_, q2, q3, _⟩ := h2 i hi
  have hk : π.idxOf i < π.length := by omega
  rw [List.getD_eq_getElem?_getD, List.getElem?_eq_getElem hk] at q2
  simp only [Option.getD_some] at q2
  simp [permOps, hk, q2, ho]
theorem permOps_at (h : okPerm π ops.size = true) {k : Nat} {o2 : Oper} (hk : (permOps π ops)[k]? = some o2) : ∃ i o, i < ops.size ∧ π.idxOf i = k ∧ ops[i]? = some o ∧ o2 = movedOp π o := by
  have hlt : k < ops.size := by rw [← permOps_size h]; exact (Array.getElem?_eq_some_iff.1 hk).1
  obtain ⟨q1, _, _, q4⟩ := (okPerm_spec h).2 k hlt
  refine ⟨π.getD k ops.size, ops[π.getD k ops.size], q4, q1, by simp, ?_⟩
  have := permOps_get h q4 (o := ops[π.getD k ops.size]) (by simp)
  rw [q1, hk] at this
  exact Option.some.inj this
theorem binds_moved (e : Edge) (k : Nat) : Region.binds .any { e with on := k } = Region.binds .any e := by cases e; rfl
theorem wpAnyIn_perm {F : Fence} {Q : Exit → Act → World → Prop} (h : okPerm π ops.size = true) : ∀ (fuel : Nat) (listed listed2 : Array Bool) (a : Act) (w : World), listed.size = ops.size → listed2.size = ops.size →
    (∀ j, j < ops.size → listed2.getD (π.idxOf j) false = listed.getD j false) → wpAnyIn F 0 P .any (permOps π ops) Q fuel listed2 a w → wpAnyIn F 0 P .any ops Q fuel listed a w := by
  have getT : ∀ (l : Array Bool) (i : Nat), i < l.size → l.getD i true = l.getD i false := fun l i hi => by simp [hi]
  have fwd : ∀ (listed listed2 : Array Bool), listed.size = ops.size → listed2.size = ops.size → (∀ j, j < ops.size → listed2.getD (π.idxOf j) false = listed.getD j false) → ∀ i, i ∈ Region.ready .any ops listed → π.idxOf i ∈ Region.ready .any (permOps π ops) listed2 := by
    intro listed listed2 h1 h2 h3 i hi
    obtain ⟨q1, o, q2, q3⟩ := mem_ready.1 hi
    have hin : i < ops.size := (Array.getElem?_eq_some_iff.1 q2).1
    have hk := ((okPerm_spec h).2 i hin).2.2.1
    refine mem_ready.2 ⟨?_, _, permOps_get h hin q2, fun e he hb => ?_⟩
    · rw [getT _ _ (by omega), h3 i hin, ← getT _ _ (by omega)]
      exact q1
    · simp only [movedOp, Array.mem_map] at he
      obtain ⟨e0, he0, rfl⟩ := he
      rw [binds_moved] at hb
      have hq := q3 e0 he0 hb
      have hlt : e0.on < ops.size := Nat.lt_of_not_le fun hc => by
        simp [h1, hc] at hq
      exact (h3 _ hlt).trans hq
  have bwd : ∀ (listed listed2 : Array Bool), listed.size = ops.size → listed2.size = ops.size → (∀ j, j < ops.size → listed2.getD (π.idxOf j) false = listed.getD j false) → Region.ready .any ops listed = [] → Region.ready .any (permOps π ops) listed2 = [] := by
    intro listed listed2 h1 h2 h3 hr
    refine List.eq_nil_iff_forall_not_mem.2 fun k hk => ?_
    obtain ⟨q1, o2, q2, q3⟩ := mem_ready.1 hk
    obtain ⟨i, o, hin, rfl, ho, rfl⟩ := permOps_at h q2
    have hki := ((okPerm_spec h).2 i hin).2.2.1
    have : i ∈ Region.ready .any ops listed := by
      refine mem_ready.2 ⟨?_, o, ho, fun e he hb => ?_⟩
      · rw [getT _ _ (by omega), ← h3 i hin, ← getT _ _ (by omega)]
        exact q1
      · have hq := q3 { e with on := π.idxOf e.on } (by simp only [movedOp, Array.mem_map]; exact ⟨e, he, rfl⟩) (by rw [binds_moved]; exact hb)
        have hlt2 : π.idxOf e.on < ops.size := Nat.lt_of_not_le fun hc => by
          simp [h2, hc] at hq
        have hlt := okPerm_lt h hlt2
        exact (h3 _ hlt).symm.trans hq
    rw [hr] at this
    cases this
  intro fuel
  induction fuel with
  | zero =>
    intro listed listed2 a w h1 h2 h3 H
    refine ⟨List.eq_nil_iff_forall_not_mem.2 fun i hi => ?_, H.2⟩
    have := fwd listed listed2 h1 h2 h3 i hi
    rw [H.1] at this
    cases this
  | succ fuel ih =>
    intro listed listed2 a w h1 h2 h3 H
    refine ⟨fun hr => H.1 (bwd listed listed2 h1 h2 h3 hr), fun i hi => ?_⟩
    have hf := H.2 _ (fwd listed listed2 h1 h2 h3 i hi)
    obtain ⟨q1, o, q2, q3⟩ := mem_ready.1 hi
    have hin : i < ops.size := (Array.getElem?_eq_some_iff.1 q2).1
    have step : ∀ (c : Act) (u : World), wpAnyIn F 0 P .any (permOps π ops) Q fuel (listed2.setIfInBounds (π.idxOf i) true) c u → wpAnyIn F 0 P .any ops Q fuel (listed.setIfInBounds i true) c u := fun c u hu => by
      refine ih _ _ c u (by simpa using h1) (by simpa using h2) (fun j hj => ?_) hu
      by_cases hji : j = i
      · subst hji
        have hk := ((okPerm_spec h).2 j hj).2.2.1
        simp [h1, h2, hj, hk]
      · have hne : π.idxOf i ≠ π.idxOf j := fun hc => by
          have e1 := ((okPerm_spec h).2 i hin).2.1
          have e2 := ((okPerm_spec h).2 j hj).2.1
          rw [hc, e2] at e1
          exact hji e1
        rw [getD_set_ne false hne, getD_set_ne false (Ne.symm hji)]
        exact h3 j hj
    unfold wpOpIn at hf ⊢
    rw [permOps_get h hin q2] at hf
    rw [q2]
    simp only at hf ⊢
    have hw : Region.wanted (movedOp π o) (yielded (permOps π ops) a.tmps) = Region.wanted o (yielded ops a.tmps) := by
      unfold Region.wanted
      have hg : (movedOp π o).guard = o.guard.map fun g => (π.idxOf g.1, g.2) := rfl
      rw [hg]
      cases o.guard with
      | none => rfl
      | some g =>
        obtain ⟨j, want⟩ := g
        simp only [Option.map_some]
        have : yielded (permOps π ops) a.tmps (π.idxOf j) = yielded ops a.tmps j := by
          unfold yielded
          by_cases hj : j < ops.size
          · rw [permOps_get h hj (o := ops[j]) (by simp)]
            simp [hj, movedOp]
          · have h1 : ops[j]? = none := by simp; omega
            have h2 : (permOps π ops)[π.idxOf j]? = none := by
              rw [Array.getElem?_eq_none_iff, permOps_size h]
              exact Nat.le_of_not_lt fun hc => hj (okPerm_lt h hc)
            rw [h1, h2]
        rw [this]
    rw [hw] at hf
    split at hf
    · rename_i hwt
      rw [if_pos hwt]
      have hf' : o.wpIn F 0 P a w (wpAnyIn F 0 P .any (permOps π ops) Q fuel (listed2.setIfInBounds (π.idxOf i) true)) Q := by
        cases o; exact hf
      exact Oper.wpIn_mono step hf'
    · rename_i hwt
      rw [if_neg hwt]
      exact ⟨fun f hff => hf.1 f (by cases o; exact hff), step _ _ hf.2⟩
end perm
def okDraws (P : Program) (ops : Array Oper) : Bool := okDraw P (drawOps P ops) && (!loose P ops || okPerm (drawPerm P ops) ops.size)
theorem region_draw_sim {inv : Inv} {ops : Array Oper} {a a2 : Act} {h h2 : AH} {ts : List TR} (hm : InvOK G P w0 inv) {F : Fence} (hF : FenceOK F) (hmix : P.follows .mixedOrders = true) (hd : okDraws P ops = true) (hops : ∀ (i : Nat) (o : Oper), ops[i]? = some o → okOper o = true) {ρ : Ren} {w : World} {a' : Act} {id : Nat}
    (S : Sim G P w0 ρ D h w) (ha : AsR ρ a.tmps a'.tmps) (he : eTrace P inv (drawOps P ops) (List.range (drawOps P ops).size) a h = some (ts, a2, h2)) (hcalm : calm P (drawOps P ops) ts = true) {Q : Exit → Act → World → Prop}
    (hQ : ∀ ρ' c' w', ρ.le ρ' → AsR ρ' a2.tmps c'.tmps → c'.defers = a'.defers → Sim G P w0 ρ' D h2 w' → Q .normal c' w') : (Code.region id ops true).wpIn F 0 P Q a' w := by
  refine wpIn_region_any hmix ?_
  unfold okDraws at hd
  simp only [Bool.and_eq_true, Bool.or_eq_true, Bool.not_eq_true'] at hd
  cases hl : loose P ops with
  | false =>
    have e : drawOps P ops = ops := by unfold drawOps; rw [hl]; rfl
    rw [e] at hd he hcalm
    exact region_draw_any hm hF hd.1 hops (S.drawn _) ha he hcalm hQ
  | true =>
    have e : drawOps P ops = permOps (drawPerm P ops) ops := by unfold drawOps; rw [hl]; rfl
    rw [e] at hd he hcalm
    have hp : okPerm (drawPerm P ops) ops.size = true := by
      rcases hd.2 with h1 | h1
      · rw [hl] at h1; cases h1
      · exact h1
    have hops2 : ∀ (i : Nat) (o : Oper), (permOps (drawPerm P ops) ops)[i]? = some o → okOper o = true := fun k o2 hk => by
      obtain ⟨i, o, _, _, ho, rfl⟩ := permOps_at hp hk
      exact hops i o ho
    have hall := region_draw_any hm hF hd.1 hops2 (S.drawn (w.drawn + 1)) ha he hcalm hQ
    rw [permOps_size hp] at hall
    refine wpAnyIn_perm hp ops.size _ _ a' _ (by simp) (by simp) (fun j hj => ?_) hall
    have hk := ((okPerm_spec hp).2 j hj).2.2.1
    simp [hj, hk]
end Go.Proofs.Ev
