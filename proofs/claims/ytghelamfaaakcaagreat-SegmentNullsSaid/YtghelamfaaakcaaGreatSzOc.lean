/- What the functions of the octet's package come to, in the state of their caller. -/
import Derived.Test.YtghelamfaaakcaaGreatSzF
import Derived.Test.YtghelamfaaakcaaGreatSzT
import Derived.Test.YtghelamfaaakcaaGreatOctM
import Derived.Test.YtghelamfaaakcaaGreatEvC
set_option linter.unusedVariables false
set_option linter.unusedSimpArgs false
set_option maxRecDepth 100000
namespace Go.Proofs.YtghelamfaaakcaaGreat.Sh
open Go Go.RowKit Go.Proofs.Ev
def u8v (x : Nat) : Value := .int .u8 (x : Int)
def ptr (b : Nat) : Value := .pointer (some ⟨b, 0, none⟩)
def Bytes (h : AH) (v : Value) (l : List Nat) : Prop := Sl1 Tryz.prog h v u8v l
def u8rows (l : List Nat) : List (List Value) := l.map fun x => [u8v x]
theorem u8rows_len (l : List Nat) : (u8rows l).length = l.length := List.length_map ..
theorem one_u8rows (l : List Nat) : (u8rows l).flatten.all oneCell = true := flat_one u8v (fun _ => rfl) l
theorem u8rows_flat (l : List Nat) : (u8rows l).flatten = l.map u8v := by
  induction l with
  | nil => rfl
  | cons x l ih => simp only [u8rows, List.map_cons, List.flatten_cons] at ih ⊢; rw [ih]; rfl
theorem Bytes.grow {h h' : AH} {v : Value} {l : List Nat} (S : Bytes h v l) (g : Grow h h') : Bytes h' v l := Sl1.grow S g
theorem Bytes.len {h h' : AH} {v : Value} {l : List Nat} (S : Bytes h v l) : pLen Tryz.prog #[33] v h' = some (.int .i64 l.length) := Sl1.len S u33
theorem Bytes.at_ {h : AH} {v : Value} {l : List Nat} (S : Bytes h v l) {i x : Nat} (hi : l[i]? = some x) :
    ∃ b o, pIndexAddr Tryz.prog 33 v (.int .i64 i) = some (.pointer (some ⟨b, o, none⟩)) ∧ ∀ h', Grow h h' → h'.cell b o = some (.int .u8 (x : Int)) := Sl1.at_ S hi u33 sz5
theorem Bytes.v {h : AH} {v : Value} {l : List Nat} (S : Bytes h v l) : v.cells.toList = [v] ∧ v.cells.size = 1 ∧ oneCell v = true ∧ kn v = true := slV_cells S
theorem nilR {x y : Operand} : pBin Tryz.prog .eql 114 x y (.pointer none) (.pointer none) = some (.bool true) := by kernel_rfl
theorem ptrR {x y : Operand} {b o : Nat} : pBin Tryz.prog .eql 114 x y (.pointer (some ⟨b, o, none⟩)) (.pointer none) = some (.bool false) := by kernel_rfl
theorem slB {x y : Operand} {b o n c : Nat} : pBin Tryz.prog .eql 33 x y (.slice (some ⟨b, o, none⟩) n c) (.slice none 0 0) = some (.bool false) := by kernel_rfl
theorem nslB {x y : Operand} : pBin Tryz.prog .eql 33 x y (.slice none 0 0) (.slice none 0 0) = some (.bool true) := by kernel_rfl
theorem nilC {b o : Nat} : pNilCheck Tryz.prog (.pointer (some ⟨b, o, none⟩)) = some (.pointer (some ⟨b, o, none⟩)) := rfl
theorem bzOc : type_of% (And.intro @ld3 (And.intro @ld5 (And.intro @ld60 (And.intro @ld33 (And.intro @ld144 (And.intro @fa144_0 (And.intro (fun a h => conv_int (a := a) (h := h) u5 u60) (And.intro (fun a h => conv_int (a := a) (h := h) u60 u5) (And.intro @nilR (And.intro @ptrR (And.intro @slB (And.intro @nslB (And.intro @nilC (And.intro @ex2_0 (@ex2_1))))))))))))))) := And.intro @ld3 (And.intro @ld5 (And.intro @ld60 (And.intro @ld33 (And.intro @ld144 (And.intro @fa144_0 (And.intro (fun a h => conv_int (a := a) (h := h) u5 u60) (And.intro (fun a h => conv_int (a := a) (h := h) u60 u5) (And.intro @nilR (And.intro @ptrR (And.intro @slB (And.intro @nslB (And.intro @nilC (And.intro @ex2_0 (@ex2_1))))))))))))))
/-! ### Numbers of any length, put -/
theorem f47_loop {β : Type} {k : Nat} {Q : β → Prop} {n0 : Nat} {h0 : AH} {L : List (Nat × AO)} {O : List OS} {ke0 : Value → Value → Value → AH → Option β} (n : Nat) :
    ∀ {j x : Nat} {h : AH} {v : Value} {l : List Nat}, (pvarN x).length ≤ n → n ≤ j → x < 18446744073709551616 → l.length + (pvarN x).length ≤ 2 ^ 30 → Stt Tryz.prog n0 h0 h L ((v, 1, u8rows l) :: O) →
      (∀ h' v' (y : Nat) l' b, y < 128 → l' ++ [y] = l ++ pvarN x → Stt Tryz.prog n0 h0 h' L ((v', 1, u8rows l') :: O) → Tl (ke0 v' (.int .u64 (y : Int)) b h') Q) →
      Tl (F47_llr (eInv env k) k j v (.int .u64 (x : Int)) h ke0) Q := by
  induction n with
  | zero =>
    intro j x h v l hn hj hx hl S hk
    have : 1 ≤ (pvarN x).length := by
      by_cases q : x < 128
      · rw [pvarN_lt q]; simp
      · rw [pvarN_ge q]; simp
    omega
  | succ n ih =>
    intro j x h v l hn hj hx hl S hk
    obtain ⟨j, rfl⟩ : ∃ q, j = q + 1 := ⟨j - 1, by omega⟩
    simp only [F47_llr]
    by_cases q : x < 128
    · repeat (first | (with_reducible apply qzV; simp (disch := omega) only [coreA, Int.reduceBEq, bzOc] <;> with_reducible rfl) | (with_reducible first | apply qzT | apply qzF | apply qzG | apply qzH) | ((with_reducible first | apply qzB | apply qzC | apply qzD); simp (disch := omega) only [coreA, Int.reduceBEq, bzOc] <;> with_reducible rfl))
      exact hk _ _ x l _ q (by rw [pvarN_lt q]) S
    · have w8 : IntKind.u8.wrap ((x : Nat) : Int) = ((x % 256 : Nat) : Int) := by rw [wrap_u8]; omega
      have o8 := or_128 (x % 256) (by omega)
      have e1 : x % 256 % 128 = x % 128 := by omega
      rw [e1] at o8
      have sh : ∀ t a b, pBin Tryz.prog Go.BinOp.shr t a b (.int .u64 (x : Int)) (.int .u64 7) = some (.int .u64 ((x / 128 : Nat) : Int)) := fun t a b => by
        rw [shr_nn (by decide)]
        have e : (x : Int).fdiv (2 ^ (min (7 : Int).toNat IntKind.u64.bits)) = ((x / 128 : Nat) : Int) := by
          have h2 : min (7 : Int).toNat IntKind.u64.bits = 7 := by decide
          rw [h2, Int.fdiv_eq_ediv_of_nonneg _ (by decide)]
          have : (2 : Int) ^ 7 = 128 := by decide
          rw [this]; omega
        rw [e]
      rw [pvarN_ge q] at hn hl hk
      simp only [List.length_cons] at hn hl
      have or8' : ∀ t a b, pBin Tryz.prog Go.BinOp.or t a b (.int .u8 ((x % 256 : Nat) : Int)) (.int .u8 128) = some (.int .u8 ((x % 128 + 128 : Nat) : Int)) := fun t a b => by
        rw [bin_or]; exact congrArg some (congrArg _ o8)
      repeat (first | (with_reducible apply qzV; simp (disch := omega) only [coreA, Int.reduceBEq, bzOc, w8, or8'] <;> with_reducible rfl) | (with_reducible first | apply qzT | apply qzF | apply qzG | apply qzH) | ((with_reducible first | apply qzB | apply qzC | apply qzD); simp (disch := omega) only [coreA, Int.reduceBEq, bzOc, w8, or8'] <;> with_reducible rfl))
      refine Tl.push S 0 rfl app33 (bs33 _ _) rfl rfl (by rw [u8rows_len]; omega) fun v' h' S' => ?_
      repeat (first | (with_reducible apply qzV; simp (disch := omega) only [coreA, Int.reduceBEq, bzOc, sh] <;> with_reducible rfl) | (with_reducible first | apply qzT | apply qzF | apply qzG | apply qzH) | ((with_reducible first | apply qzB | apply qzC | apply qzD); simp (disch := omega) only [coreA, Int.reduceBEq, bzOc, sh] <;> with_reducible rfl))
      refine ih (l := l ++ [x % 128 + 128]) (by omega) (by omega) (by omega) (by simp; omega) (by simpa [u8rows, u8v] using S') fun h'' v'' y l'' b hy hl'' S'' => hk h'' v'' y l'' b hy (by rw [hl'']; simp) S''
theorem f47c {k : Nat} {n0 : Nat} {h0 h : AH} {L : List (Nat × AO)} {O : List OS} {v : Value} {l : List Nat} (x : Nat) (hx : x < 18446744073709551616) (hl : l.length ≤ 2 ^ 29) (S : Stt Tryz.prog n0 h0 h L ((v, 1, u8rows l) :: O)) :
    Tl (eInv env (k + 20) (.func 47) #[] #[v, .int .u64 (x : Int)] h) fun r => Stt Tryz.prog n0 h0 r.2 L ((r.1, 1, u8rows (l ++ pvarN x)) :: O) := by
  rw [F47_call]
  unfold F47
  have h10 := pvarN_le10 hx
  refine f47_loop (k := k + 19) 10 h10 (by omega) hx (by omega) S fun h' v' y l' b hy he S' => ?_
  have w8 : IntKind.u8.wrap ((y : Nat) : Int) = ((y : Nat) : Int) := by rw [wrap_u8]; omega
  have hle : l'.length + 1 = l.length + (pvarN x).length := by
    have := congrArg List.length he
    simpa using this
  repeat (first | (with_reducible apply qzV; simp (disch := omega) only [coreA, Int.reduceBEq, bzOc, w8] <;> with_reducible rfl) | (with_reducible first | apply qzT | apply qzF | apply qzG | apply qzH) | ((with_reducible first | apply qzB | apply qzC | apply qzD); simp (disch := omega) only [coreA, Int.reduceBEq, bzOc, w8] <;> with_reducible rfl))
  refine Tl.push S' 0 rfl app33 (bs33 _ _) rfl rfl (by rw [u8rows_len]; omega) fun v'' h'' S'' => ?_
  repeat (first | (with_reducible apply qzV; simp (disch := omega) only [coreA, Int.reduceBEq, bzOc] <;> with_reducible rfl) | (with_reducible first | apply qzT | apply qzF | apply qzG | apply qzH) | ((with_reducible first | apply qzB | apply qzC | apply qzD); simp (disch := omega) only [coreA, Int.reduceBEq, bzOc] <;> with_reducible rfl))
  refine ⟨_, rfl, ?_⟩
  rw [← he]
  simpa [u8rows, u8v] using S''
/-! ### A reader -/
/-- What a reader (the block at place i) has left, by its slice. -/
def RV (L : List (Nat × AO)) (i : Nat) (rv : Value) (rest : List Nat) : Prop :=
  rv = .slice none 0 0 ∧ rest = [] ∨ ∃ (j bb o : Nat) (cs : List Value) (e : TypeId), j ≠ i ∧ L[j]? = some (bb, .cells cs e true) ∧ szT Tryz.prog e = some 1 ∧ rv = .slice (some ⟨bb, o, none⟩) rest.length rest.length ∧
    (rest ≠ [] → o + rest.length ≤ cs.length ∧ (cs.drop o).take rest.length = rest.map u8v)
theorem RV.set {L : List (Nat × AO)} {i : Nat} {rv : Value} {rest : List Nat} (R : RV L i rv rest) (p : Nat × AO) : RV (L.set i p) i rv rest := by
  rcases R with R | ⟨j, bb, o, cs, e, h1, h2, h3⟩
  · exact .inl R
  · exact .inr ⟨j, bb, o, cs, e, h1, by rw [List.getElem?_set_ne (Ne.symm h1)]; exact h2, h3⟩
theorem RV.cons {L : List (Nat × AO)} {i : Nat} {rv : Value} {rest : List Nat} (R : RV L i rv rest) (p : Nat × AO) : RV (p :: L) (i + 1) rv rest := by
  rcases R with R | ⟨j, bb, o, cs, e, h1, h2, h3⟩
  · exact .inl R
  · exact .inr ⟨j + 1, bb, o, cs, e, by omega, by simpa using h2, h3⟩
theorem u8v_wide (l : List Nat) : ∀ r ∈ l.map (fun x => [u8v x]), r.length = 1 := fun r hr => by
  obtain ⟨x, _, rfl⟩ := List.mem_map.1 hr
  rfl
theorem flat_u8 (l : List Nat) : (l.map fun x => [u8v x]).flatten = l.map u8v := u8rows_flat l
section
variable {n0 : Nat} {h0 h : AH} {L : List (Nat × AO)} {O : List OS} {i br : Nat} {rv : Value} {rest : List Nat}
theorem RV.lie {bb o : Nat} {cs : List Value} {e : TypeId} (hg : h.get bb = some (.cells cs e true)) (hc : rest ≠ [] → o + rest.length ≤ cs.length ∧ (cs.drop o).take rest.length = rest.map u8v) : Lie Tryz.prog h bb o 1 true (rest.map fun x => [u8v x]) := by
  refine ⟨⟨cs, e, hg, fun hne => ?_⟩, u8v_wide rest⟩
  have := hc (by rintro rfl; simp at hne)
  simp only [List.length_map, Nat.mul_one, flat_u8]
  exact this
theorem RV.bytes (R : RV L i rv rest) (S : Stt Tryz.prog n0 h0 h L O) : Bytes h rv rest := by
  rcases R with ⟨rfl, rfl⟩ | ⟨j, bb, o, cs, e, h1, h2, h3, rfl, h5⟩
  · exact .inl ⟨rfl, rfl⟩
  · exact .inr ⟨bb, o, rest.length, true, by simp, by simp, RV.lie (S.sta.mem.at_ h2) h5⟩
theorem RV.drop (R : RV L i rv rest) (S : Stt Tryz.prog n0 h0 h L O) {n : Nat} (hn : n ≤ rest.length) : ∃ rv', pSlice Tryz.prog 33 rv (some (.int .i64 n)) none none h = some rv' ∧ RV L i rv' (rest.drop n) ∧ oneCell rv' = true ∧ rv'.cells.toList = [rv'] ∧ rv'.cells.size = 1 := by
  have hm : ∀ d : Int, intOr d (some (.int .i64 (n : Int))) = some (n : Int) := fun d => rfl
  have hm2 : ∀ d : Int, intOr d none = some d := fun d => rfl
  rcases R with ⟨rfl, rfl⟩ | ⟨j, bb, o, cs, e, h1, h2, h3, rfl, h5⟩
  · have : n = 0 := by simpa using hn
    subst this
    refine ⟨.slice none 0 0, ?_, .inl ⟨rfl, rfl⟩, rfl, rfl, rfl⟩
    unfold pSlice
    simp only [el33, Option.bind_some, sz5, hm, hm2]
    simp
  · refine ⟨.slice (some ⟨bb, o + n * 1, none⟩) (rest.length - n) (rest.length - n), ?_, .inr ⟨j, bb, o + n * 1, cs, e, h1, h2, h3, by simp, fun hne => ?_⟩, rfl, rfl, rfl⟩
    · have hz : szOk Tryz.prog (some ⟨bb, o, none⟩) 1 h = true := by
        unfold szOk
        simp only [S.sta.mem.at_ h2, h3]
        simp
      unfold pSlice
      simp only [el33, Option.bind_some, sz5, hm, hm2]
      rw [if_pos ⟨by omega, by omega, by omega, by omega, .inl rfl, .inr (.inr hz)⟩]
      simp only [Option.map_some, Int.toNat_natCast, Option.some.injEq, Value.slice.injEq, true_and]
      omega
    · have hne' : rest ≠ [] := by rintro rfl; simp at hne
      obtain ⟨q1, q2⟩ := h5 hne'
      refine ⟨by simp; omega, ?_⟩
      rw [List.map_drop, ← q2, List.drop_take, List.drop_drop]
      simp
theorem RV.take (R : RV L i rv rest) {n : Nat} (hn : n ≤ rest.length) : ∃ out, pSlice Tryz.prog 33 rv none (some (.int .i64 n)) (some (.int .i64 n)) h = some out ∧
    ∀ {h' : AH} {L' : List (Nat × AO)} {O' : List OS}, Stt Tryz.prog n0 h0 h' L' O' → (∀ j, j ≠ i → L'[j]? = L[j]?) → Bytes h' out (rest.take n) := by
  have hm : ∀ d : Int, intOr d (some (.int .i64 (n : Int))) = some (n : Int) := fun d => rfl
  have hm2 : ∀ d : Int, intOr d none = some d := fun d => rfl
  rcases R with ⟨rfl, rfl⟩ | ⟨j, bb, o, cs, e, h1, h2, h3, rfl, h5⟩
  · have : n = 0 := by simpa using hn
    subst this
    refine ⟨.slice none 0 0, ?_, fun _ _ => .inl ⟨rfl, rfl⟩⟩
    unfold pSlice
    simp only [el33, Option.bind_some, sz5, hm, hm2]
    simp
  · refine ⟨.slice (some ⟨bb, o, none⟩) n n, ?_, fun S' hk => .inr ⟨bb, o, n, true, by simp; omega, by simp; omega, ?_⟩⟩
    · unfold pSlice
      simp only [el33, Option.bind_some, sz5, hm, hm2]
      rw [if_pos ⟨by omega, by omega, by omega, by omega, by simp, by simp⟩]
      simp
    · refine RV.lie (S'.sta.mem.at_ ((hk j h1).trans h2)) fun hq => ?_
      have hne' : rest ≠ [] := by rintro rfl; simp at hq
      obtain ⟨q1, q2⟩ := h5 hne'
      refine ⟨by simp; omega, ?_⟩
      rw [List.map_take, ← q2, List.take_take]
      simp
end
end Go.Proofs.YtghelamfaaakcaaGreat.Sh
