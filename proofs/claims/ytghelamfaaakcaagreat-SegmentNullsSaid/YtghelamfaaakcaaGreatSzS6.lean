/- What 'segment.Put' comes to: the whole. -/
import Derived.Test.YtghelamfaaakcaaGreatSzS5
set_option linter.unusedVariables false
set_option linter.unusedSimpArgs false
set_option maxRecDepth 100000
namespace Go.Proofs.YtghelamfaaakcaaGreat.Sh
open Go Go.RowKit Go.Proofs.Ev Go.Lib
theorem bzS6 : type_of% (And.intro @ld3 (And.intro @ld2 (And.intro @ld9 (And.intro @ld4 (And.intro @ld31 (And.intro @fa31_0 (And.intro @fa31_1 (And.intro @fa31_2 (And.intro (fun a h => conv_int (a := a) (h := h) u3 u5) (And.intro @aggC (And.intro @ex2_0 (And.intro @ex2_1 (@Nat.add_zero))))))))))))) := And.intro @ld3 (And.intro @ld2 (And.intro @ld9 (And.intro @ld4 (And.intro @ld31 (And.intro @fa31_0 (And.intro @fa31_1 (And.intro @fa31_2 (And.intro (fun a h => conv_int (a := a) (h := h) u3 u5) (And.intro @aggC (And.intro @ex2_0 (And.intro @ex2_1 (@Nat.add_zero))))))))))))
/-! ### What is put -/
def oneB (kind : Int) (c : CellD) : List Nat := if kind = 1 then oneN c else if kind = 2 then oneT c else oneW c
def cellsE (kind : Int) (l : List CellD) : Int := if kind = 1 then 0 else if kind = 2 then Pk.putE (valsT l) 1 else checkT (valsW l)
def cellsB (kind : Int) (l : List CellD) : List Nat := if kind = 1 then putI (valsN l) else if kind = 2 then Pk.putL (valsT l) 1 else putT (valsW l)
def tailB (kind : Int) (l : List CellD) : List Nat := if l = [] then [] else (oneB kind (ofZ l).mn ++ oneB kind (ofZ l).mx) ++ cellsB kind l
def segB (kind : Int) (l : List CellD) : List Nat := [kind.toNat] ++ putV (flg l) ++ tailB kind (vals l)
def goodC (kind : Int) (c : CellD) : Prop := c.k = kind ∧ cellE c = 0
theorem and1_01 (i : Int) : and1 i = 0 ∨ and1 i = 1 := by
  unfold and1
  have h : (BitVec.ofInt 64 i &&& BitVec.ofInt 64 1).toNat ≤ 1 := by
    rw [BitVec.toNat_and]
    have : (BitVec.ofInt 64 1).toNat = 1 := by decide
    rw [this, Nat.and_one_is_mod]
    omega
  generalize (BitVec.ofInt 64 i &&& BitVec.ofInt 64 1).toNat = n at h
  have : n = 0 ∨ n = 1 := by omega
  rcases this with rfl | rfl
  · exact .inl (by decide)
  · exact .inr (by decide)
theorem cellE_size {c : CellD} (h : cellE c = 0) : c.s.size ≤ 65536 := by
  unfold cellE at h
  split at h
  · cases h
  · omega
theorem cellE_bare {c : CellD} (h : cellE c = 0) : bare c = c := by
  unfold cellE at h
  split at h
  · cases h
  · split at h
    · split at h
      · assumption
      · cases h
    · cases h
theorem good_bool {c : CellD} (h : goodC 2 c) : c.i = 0 ∨ c.i = 1 := by
  have hb := cellE_bare h.2
  unfold bare at hb
  rw [if_neg (by rw [h.1]; decide), if_neg (by rw [h.1]; decide), if_pos h.1] at hb
  have : and1 c.i = c.i := congrArg CellD.i hb
  have h2 := and1_01 c.i
  rw [this] at h2
  exact h2
theorem chkE_all {kind : Int} : ∀ {l : List CellD}, chkE kind l = 0 ↔ ∀ c ∈ l, cellE c = 0 ∧ (c.k = kind ∨ c.k = 0)
  | [] => by simp [chkE]
  | c :: l => by
    have ih := chkE_all (kind := kind) (l := l)
    unfold chkE
    by_cases h1 : cellE c = 0
    · rw [if_neg (by simpa using h1)]
      by_cases h2 : c.k ≠ kind ∧ c.k ≠ 0
      · rw [if_pos h2]
        simp only [List.mem_cons, forall_eq_or_imp]
        constructor
        · intro q; cases q
        · rintro ⟨⟨_, q | q⟩, _⟩
          · exact absurd q h2.1
          · exact absurd q h2.2
      · rw [if_neg h2, ih]
        simp only [List.mem_cons, forall_eq_or_imp]
        have : c.k = kind ∨ c.k = 0 := by
          by_cases q : c.k = kind
          · exact .inl q
          · exact .inr (Classical.not_not.1 fun q2 => h2 ⟨q, q2⟩)
        exact ⟨fun q => ⟨⟨h1, this⟩, q⟩, fun q => q.2⟩
    · rw [if_pos h1]
      simp only [List.mem_cons, forall_eq_or_imp]
      exact ⟨fun q => absurd q h1, fun q => absurd q.1.1 h1⟩
theorem segE_zero {kind : Int} {l : List CellD} : segE kind l = 0 ↔ (1 ≤ kind ∧ kind ≤ 3) ∧ l.length ≤ 4096 ∧ ∀ c ∈ l, cellE c = 0 ∧ (c.k = kind ∨ c.k = 0) := by
  unfold segE
  by_cases p : 1 ≤ kind ∧ kind ≤ 3
  · rw [if_pos p]
    by_cases q : l.length > 4096
    · rw [if_pos q]
      constructor
      · intro h; cases h
      · intro h; omega
    · rw [if_neg q, chkE_all]
      exact ⟨fun h => ⟨p, by omega, h⟩, fun h => h.2.2⟩
  · rw [if_neg p]
    constructor
    · intro h; cases h
    · intro h; exact absurd h.1 p
theorem good_vals {kind : Int} {l : List CellD} (h : ∀ c ∈ l, cellE c = 0 ∧ (c.k = kind ∨ c.k = 0)) : ∀ c ∈ vals l, goodC kind c := fun c hc => by
  have hm : c ∈ l ∧ c.k ≠ 0 := by simpa [vals] using hc
  obtain ⟨h1, h2⟩ := h c hm.1
  exact ⟨h2.resolve_right hm.2, h1⟩
theorem cellsE_zero {kind : Int} (hk : 1 ≤ kind ∧ kind ≤ 3) {l : List CellD} (hl : l.length ≤ 4096) (h : ∀ c ∈ l, goodC kind c) : cellsE kind l = 0 := by
  unfold cellsE
  by_cases p1 : kind = 1
  · rw [if_pos p1]
  rw [if_neg p1]
  by_cases p2 : kind = 2
  · rw [if_pos p2]
    refine Pk.putE_of (W := 1) (by simp [valsT]; omega) (by omega) ((Pk.width_le _ _).2 fun x hx => ?_)
    obtain ⟨c, hc, rfl⟩ := List.mem_map.1 hx
    have := good_bool (p2 ▸ h c hc)
    unfold toU
    omega
  rw [if_neg p2]
  unfold checkT
  rw [if_pos]
  rw [mayT_spec]
  refine ⟨by simp [valsW]; omega, fun x hx => ?_⟩
  obtain ⟨c, hc, rfl⟩ := List.mem_map.1 hx
  exact cellE_size (h c hc).2
theorem putI_le {l : List Int} (hl : l.length ≤ 4096) : (putI l).length ≤ 11 + 8 * l.length := by
  have h1 : (plainB l).length ≤ 11 + 8 * l.length := by
    unfold plainB headB
    have := pvarN_le10 (n := l.length) (by omega)
    simp only [List.length_append, List.length_cons, flat8_len]
    omega
  unfold putI
  simp only
  split <;> split <;> omega
theorem cellsB_len {kind : Int} (hk : 1 ≤ kind ∧ kind ≤ 3) {l : List CellD} (hl : l.length ≤ 4096) : (cellsB kind l).length ≤ 2 ^ 31 := by
  unfold cellsB
  split
  · have e : (valsN l).length = l.length := List.length_map ..
    have := putI_le (l := valsN l) (by omega)
    omega
  · split
    · unfold Pk.putL
      split
      · have := (putN_spec (1 : Int).toNat (valsT l)).2.1
        have e : (valsT l).length = l.length := List.length_map ..
        rw [this, e]
        have : (1 : Int).toNat = 1 := rfl
        rw [this]
        omega
      · simp
    · unfold putT
      split
      · rename_i h
        have := plainT_le h
        split <;> omega
      · simp
theorem mn_mem {l : List CellD} (hl : l.length ≤ 4096) (hv : ∀ c ∈ l, c.k ≠ 0) (h : l ≠ []) : (ofZ l).mn ∈ l ∧ (ofZ l).mx ∈ l := by
  have e : vals l = l := by unfold vals; rw [List.filter_eq_self]; intro c hc; simpa using hv c hc
  rw [ofZ_rep l (by omega), e]
  exact ⟨(mnL_spec h).1, (mxL_spec h).1⟩
/-! ### The walk -/
section
variable {n0 : Nat} {h0 h : AH} {L : List (Nat × AO)} {O : List OS}
theorem segcells_c {k : Nat} {h : AH} {v : Value} {kind : Int} (hk : 1 ≤ kind ∧ kind ≤ 3) {l : List CellD} (A : Cells h v l) (hl : l.length ≤ 4096) (hk2 : 4096 < k) :
    Tl (eInv env (k + 602) (.method "shadowbook/segment.cells") #[] #[codV kind, v] h) fun r => ∃ o, r.1 = .tuple #[o, .int .i64 (cellsE kind l)] ∧ Stt Tryz.prog h.n h r.2 [] [(o, 1, u8rows (cellsB kind l))] := by
  have h : kind = 1 ∨ kind = 2 ∨ kind = 3 := by omega
  rcases h with rfl | rfl | rfl
  · exact cellsN_c A hl hk2
  · exact cellsT_c A hl hk2
  · exact cellsW_c A hl hk2
theorem segzone_c {k : Nat} {v : Value} {l : List Nat} {kind : Int} (hk : 1 ≤ kind ∧ kind ≤ 3) (z : ZoneD) (hc : z.mn.s.size ≤ 2 ^ 20) (hd : z.mx.s.size ≤ 2 ^ 20) (hl : l.length ≤ 2 ^ 26) (S : Stt Tryz.prog n0 h0 h L ((v, 1, u8rows l) :: O)) :
    Tl (eInv env (k + 31) (.method "shadowbook/segment.zone") #[] #[codV kind, v, zv z] h) fun r => Stt Tryz.prog n0 h0 r.2 L ((r.1, 1, u8rows (l ++ (oneB kind z.mn ++ oneB kind z.mx))) :: O) := by
  have h : kind = 1 ∨ kind = 2 ∨ kind = 3 := by omega
  rcases h with rfl | rfl | rfl
  · exact zoneN_c z hl S
  · exact zoneT_c z hl S
  · exact zoneW_c z hc hd hl S
/-- One's own slices in another order. -/
theorem permO {P : Program} {n0 : Nat} {h0 h : AH} {L : List (Nat × AO)} {O O' : List OS} (S : Stt P n0 h0 h L O) (hs : O.Perm O') : Stt P n0 h0 h L O' := by
  have hp : O.Pairwise fun x y => ∀ b, blkOf x.1 = some b → ¬ blkOf y.1 = some b := by
    rw [List.pairwise_iff_getElem]
    intro i j hi hj hij b h1 h2
    have := S.apart i j _ _ b (List.getElem?_eq_getElem hi) (List.getElem?_eq_getElem hj) h1 h2
    omega
  have hp2 := List.pairwise_iff_getElem.1 ((hs.pairwise_iff (fun {x y} h b h1 h2 => h b h2 h1)).1 hp)
  refine ⟨S.sta, fun o ho => S.own o (hs.mem_iff.2 ho), fun i j x y b hi hj h1 h2 => ?_⟩
  obtain ⟨l1, rfl⟩ := List.getElem?_eq_some_iff.1 hi
  obtain ⟨l2, rfl⟩ := List.getElem?_eq_some_iff.1 hj
  rcases Nat.lt_trichotomy i j with q | q | q
  · exact (hp2 i j l1 l2 q b h1 h2).elim
  · exact q
  · exact (hp2 j i l2 l1 q b h2 h1).elim
def mkZ (kind : Int) : Value := .func (.method "shadowbook/segment.zone") #[codV kind] #[]
theorem mkz1 : pMakeFunc (.method "shadowbook/segment.zone") #[codV 1] #[] = some (mkZ 1) := by kernel_rfl
theorem mkz2 : pMakeFunc (.method "shadowbook/segment.zone") #[codV 2] #[] = some (mkZ 2) := by kernel_rfl
theorem mkz3 : pMakeFunc (.method "shadowbook/segment.zone") #[codV 3] #[] = some (mkZ 3) := by kernel_rfl
theorem ncz1 : pNilCheck Tryz.prog (mkZ 1) = some (mkZ 1) := by kernel_rfl
theorem ncz2 : pNilCheck Tryz.prog (mkZ 2) = some (mkZ 2) := by kernel_rfl
theorem ncz3 : pNilCheck Tryz.prog (mkZ 3) = some (mkZ 3) := by kernel_rfl
theorem mkz {kind : Int} (hk : 1 ≤ kind ∧ kind ≤ 3) : pMakeFunc (.method "shadowbook/segment.zone") #[codV kind] #[] = some (mkZ kind) ∧ pNilCheck Tryz.prog (mkZ kind) = some (mkZ kind) := by
  have h : kind = 1 ∨ kind = 2 ∨ kind = 3 := by omega
  rcases h with rfl | rfl | rfl
  · exact ⟨mkz1, ncz1⟩
  · exact ⟨mkz2, ncz2⟩
  · exact ⟨mkz3, ncz3⟩
end
theorem f13c {k : Nat} {h : AH} {v : Value} {l : List CellD} (kind : Int) (A : Cells h v l) (hl : l.length ≤ 9223372036854775807) (hk : 4200 < k) :
    Tl (eInv env (k + 701) (.func 13) #[] #[.int .i64 kind, v] h) fun r => r.1 = .tuple #[.string (strB (if segE kind l = 0 then segB kind l else [])), .int .i64 (segE kind l)] ∧ Grow h r.2 := by
  rw [F13_call]
  unfold F13
  have hv : ∀ h' : AH, pLen Tryz.prog #[22] v h' = some (.int .i64 l.length) := fun h' => A.len
  with_reducible refine Tl.call' (Stt.init (P := Tryz.prog) h) (f11c (k := k + 697) kind A hl (by omega)) fun h1 S1 _ => ?_
  by_cases e0 : ¬ segE kind l = 0
  · rw [if_neg e0]
    repeat (first | (with_reducible apply qzV; simp (disch := omega) only [coreA, Int.reduceBEq, bzS6] <;> with_reducible rfl) | (with_reducible first | apply qzT | apply qzF | apply qzG | apply qzH) | ((with_reducible first | apply qzB | apply qzC | apply qzD); simp (disch := omega) only [coreA, Int.reduceBEq, bzS6] <;> with_reducible rfl))
    exact ⟨_, rfl, rfl, S1.grow⟩
  have e0 : segE kind l = 0 := Classical.not_not.1 e0
  rw [if_pos e0]
  obtain ⟨hkd, hl4, hall⟩ := segE_zero.1 e0
  rw [e0]
  repeat (first | (with_reducible apply qzV; simp (disch := omega) only [coreA, Int.reduceBEq, bzS6, hv] <;> with_reducible rfl) | (with_reducible first | apply qzT | apply qzF | apply qzG | apply qzH) | ((with_reducible first | apply qzB | apply qzC | apply qzD); simp (disch := omega) only [coreA, Int.reduceBEq, bzS6, hv] <;> with_reducible rfl))
  refine Tl.make' (S1.nil 3) app32 ze4 (by omega) (by omega) fun nv h2 S2 g2 => ?_
  have S2 : Stt Tryz.prog h.n h h2 [] [(nv, 1, brows (flx l 0)), (.slice none 0 0, 3, crows (vals (l.take 0)))] := by
    have e : brows (flx l 0) = List.replicate l.length [.bool false] := by simp [flx, flg, brows, bv]
    rw [e]
    exact S2
  repeat (first | (with_reducible apply qzV; simp (disch := omega) only [coreA, Int.reduceBEq, bzS6, hv] <;> with_reducible rfl) | (with_reducible first | apply qzT | apply qzF | apply qzG | apply qzH) | ((with_reducible first | apply qzB | apply qzC | apply qzD); simp (disch := omega) only [coreA, Int.reduceBEq, bzS6, hv] <;> with_reducible rfl))
  refine f13_loop (i := 0) A hl4 l.length (by omega) (by omega) S2 fun h3 nv sv y1 y2 S3 => ?_
  have hfl : (flg l).length = l.length := List.length_map ..
  have hvl := vals_le l
  refine Tl.bind (f30c (k := k + 200) (S3.sl1 (f := bv) 0 rfl) (by omega) (by omega)) ?_
  rintro ⟨r, h4⟩ ⟨ov, er, g4, X⟩
  simp only at er g4 X
  subst er
  have S4 := S3.gain g4 X
  have ek : IntKind.u8.wrap kind = ((kind.toNat : Nat) : Int) := by rw [wrap_u8]; omega
  have hpl := putV_len (l := flg l) (by omega)
  repeat (first | (with_reducible apply qzV; simp (disch := omega) only [coreA, Int.reduceBEq, bzS6, ek, bs33] <;> with_reducible rfl) | (with_reducible first | apply qzT | apply qzF | apply qzG | apply qzH) | ((with_reducible first | apply qzB | apply qzC | apply qzD); simp (disch := omega) only [coreA, Int.reduceBEq, bzS6, ek, bs33] <;> with_reducible rfl))
  have S5 := Stt.absorb (n := 1) (rows := [[.int .u8 ((kind.toNat : Nat) : Int)]]) (S4.alloc (.cells [.int .u8 ((kind.toNat : Nat) : Int)] 5 true)) (by simp) sz5
  refine Tl.append' S5 0 rfl app33 (S5.slV 1 rfl) (one_u8rows _) (by rw [u8rows_len]; simp; omega) fun xv h6 S6 => ?_
  have S6 : Stt Tryz.prog h.n h h6 [] [(xv, 1, u8rows ([kind.toNat] ++ putV (flg l))), (ov, 1, u8rows (putV (flg l))), (nv, 1, brows (flg l)), (sv, 3, crows (vals l))] := by
    have e : [[Value.int .u8 ((kind.toNat : Nat) : Int)]] ++ u8rows (putV (flg l)) = u8rows ([kind.toNat] ++ putV (flg l)) := by simp [u8rows, u8v]
    rw [← e]; exact S6
  have A6 : Cells h6 sv (vals l) := (S6.slV 3 rfl).z
  have hv6 : ∀ h' : AH, pLen Tryz.prog #[22] sv h' = some (.int .i64 (vals l).length) := fun h' => A6.len
  by_cases q : vals l = []
  · have eb : segB kind l = [kind.toNat] ++ putV (flg l) := by unfold segB tailB; rw [if_pos q]; simp
    have cb := convB (S6.sl1 (f := u8v) (l := [kind.toNat] ++ putV (flg l)) 0 rfl)
    rw [q] at hv6
    repeat (first | (with_reducible apply qzV; simp (disch := omega) only [coreA, Int.reduceBEq, bzS6, hv6, cb, List.length_nil] <;> with_reducible rfl) | (with_reducible first | apply qzT | apply qzF | apply qzG | apply qzH) | ((with_reducible first | apply qzB | apply qzC | apply qzD); simp (disch := omega) only [coreA, Int.reduceBEq, bzS6, hv6, cb, List.length_nil] <;> with_reducible rfl))
    exact ⟨_, rfl, by rw [eb], S6.grow⟩
  have qn : (vals l).length ≠ 0 := fun z => q (List.length_eq_zero_iff.1 z)
  repeat (first | (with_reducible apply qzV; simp (disch := omega) only [coreA, Int.reduceBEq, bzS6, hv6] <;> with_reducible rfl) | (with_reducible first | apply qzT | apply qzF | apply qzG | apply qzH) | ((with_reducible first | apply qzB | apply qzC | apply qzD); simp (disch := omega) only [coreA, Int.reduceBEq, bzS6, hv6] <;> with_reducible rfl))
  with_reducible refine Tl.call' S6 (f28c (k := k + 698) kind h6) fun h7 S7 g7 => ?_
  have hgood := good_vals hall
  refine Tl.bind (segcells_c (k := k + 98) hkd (A6.grow g7) (by omega) (by omega)) ?_
  rintro ⟨r, h8⟩ ⟨cv, er, X8⟩
  simp only at er X8
  subst er
  have S8 := S7.join X8
  have g8 := X8.grow
  have ec : cellsE kind (vals l) = 0 := cellsE_zero hkd (by omega) hgood
  rw [ec]
  repeat (first | (with_reducible apply qzV; simp (disch := omega) only [coreA, Int.reduceBEq, bzS6] <;> with_reducible rfl) | (with_reducible first | apply qzT | apply qzF | apply qzG | apply qzH) | ((with_reducible first | apply qzB | apply qzC | apply qzD); simp (disch := omega) only [coreA, Int.reduceBEq, bzS6] <;> with_reducible rfl))
  with_reducible refine Tl.call' S8 (f31c (k := k + 687) (Cells.grow (A6.grow g7) g8) (by omega) (by omega)) fun h9 S9 g9 => ?_
  obtain ⟨mf, nc⟩ := mkz hkd
  repeat (first | (with_reducible apply qzV; simp (disch := omega) only [coreA, Int.reduceBEq, bzS6, mf, nc] <;> with_reducible rfl) | (with_reducible first | apply qzT | apply qzF | apply qzG | apply qzH) | ((with_reducible first | apply qzB | apply qzC | apply qzD); simp (disch := omega) only [coreA, Int.reduceBEq, bzS6, mf, nc] <;> with_reducible rfl))
  have hk0 : ∀ c ∈ vals l, c.k ≠ 0 := fun c hc => by
    have : c ∈ l ∧ c.k ≠ 0 := by simpa [vals] using hc
    exact this.2
  obtain ⟨m1, m2⟩ := mn_mem (l := vals l) (by omega) hk0 q
  have s1 := cellE_size (hgood _ m1).2
  have s2 := cellE_size (hgood _ m2).2
  refine Tl.bind (segzone_c (k := k + 669) hkd (ofZ (vals l)) (by omega) (by omega) (by simp; omega) (permO S9 (.swap ..))) ?_
  rintro ⟨zvv, h10⟩ S10
  have hcl := cellsB_len hkd (l := vals l) (by omega)
  have hone : ∀ c : CellD, c.s.size ≤ 65536 → (oneB kind c).length ≤ 2 ^ 21 := fun c hc => by
    unfold oneB
    split
    · exact lenN c
    · split
      · exact lenT c
      · exact lenW c (by omega)
  have o1 := hone _ s1
  have o2 := hone _ s2
  refine Tl.append' S10 0 rfl app33 (S10.slV 1 rfl) (one_u8rows _) (by rw [u8rows_len, u8rows_len]; simp only [List.length_append, List.length_cons, List.length_nil]; omega) fun wv h11 S11 => ?_
  have eb : u8rows ([kind.toNat] ++ putV (flg l) ++ (oneB kind (ofZ (vals l)).mn ++ oneB kind (ofZ (vals l)).mx)) ++ u8rows (cellsB kind (vals l)) = u8rows (segB kind l) := by
    unfold segB tailB
    rw [if_neg q]
    simp [u8rows]
  rw [eb] at S11
  have cb := convB (S11.sl1 (f := u8v) (l := segB kind l) 0 rfl)
  repeat (first | (with_reducible apply qzV; simp (disch := omega) only [coreA, Int.reduceBEq, bzS6, cb] <;> with_reducible rfl) | (with_reducible first | apply qzT | apply qzF | apply qzG | apply qzH) | ((with_reducible first | apply qzB | apply qzC | apply qzD); simp (disch := omega) only [coreA, Int.reduceBEq, bzS6, cb] <;> with_reducible rfl))
  exact ⟨_, rfl, rfl, S11.grow⟩
end Go.Proofs.YtghelamfaaakcaaGreat.Sh
