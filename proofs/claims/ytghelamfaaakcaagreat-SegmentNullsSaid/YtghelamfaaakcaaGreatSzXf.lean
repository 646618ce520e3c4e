/- Texts that are got: 'Get'. -/
import Derived.Test.YtghelamfaaakcaaGreatSzXe
set_option linter.unusedVariables false
set_option linter.unusedSimpArgs false
set_option maxRecDepth 100000
namespace Go.Proofs.YtghelamfaaakcaaGreat.Sh
open Go Go.RowKit Go.Proofs.Ev
theorem bzXf : type_of% (And.intro @ld3 (And.intro @ld4 (And.intro @ld9 (And.intro @ld122 (And.intro @ld33 (And.intro @ld60 (And.intro @ld63 (And.intro (fun a h => conv_int (a := a) (h := h) u3 u60) (And.intro (fun a h => conv_int (a := a) (h := h) u60 u3) (And.intro (fun ox oy a b => bin_eql_bool (ox := ox) (oy := oy) (a := a) (b := b) u4) (And.intro @Nat.add_zero (And.intro @ex2_0 (@ex2_1))))))))))))) := And.intro @ld3 (And.intro @ld4 (And.intro @ld9 (And.intro @ld122 (And.intro @ld33 (And.intro @ld60 (And.intro @ld63 (And.intro (fun a h => conv_int (a := a) (h := h) u3 u60) (And.intro (fun a h => conv_int (a := a) (h := h) u60 u3) (And.intro (fun ox oy a b => bin_eql_bool (ox := ox) (oy := oy) (a := a) (b := b) u4) (And.intro @Nat.add_zero (And.intro @ex2_0 (@ex2_1))))))))))))
/-- What a form's texts are. -/
def formT (form n : Nat) (r1 : List Nat) : Option (List ByteArray) := if form = 1 then (readT n r1).map (·.1) else if form = 2 then wordsT n r1 else none
def putF (form : Nat) (l : List ByteArray) : List Nat := if form = 1 then plainG l else dictG l
def getT (b : List Nat) : Option (List ByteArray) := match b with
  | [] => none
  | form :: r => match dec 0 0 r with
    | none => none
    | some (n, r1) => if n > 4096 then none else match formT form n r1 with
      | none => none
      | some l => if putF form l = b then some l else none
section
variable {n0 : Nat} {h0 h : AH} {L : List (Nat × AO)} {O : List OS}
/-! ### 'Put' -/
def putT (l : List ByteArray) : List Nat := if mayT l then (if (dictT l).length < (plainT l).length then dictT l else plainT l) else []
theorem plainT_le {l : List ByteArray} (h : mayT l = true) : (plainT l).length ≤ 2 ^ 30 := by
  obtain ⟨h1, h2⟩ := mayT_spec.1 h
  have key : ∀ l : List ByteArray, (∀ x ∈ l, x.size ≤ 65536) → (l.flatMap textP).length ≤ l.length * 65546 := by
    intro l
    induction l with
    | nil => intro _; simp
    | cons x l ih =>
      intro h
      have a := ih fun y hy => h y (List.mem_cons_of_mem _ hy)
      have b := textP_len x (by have := h x (List.mem_cons_self ..); omega)
      have c := h x (List.mem_cons_self ..)
      rw [List.flatMap_cons, List.length_append, List.length_cons, Nat.succ_mul]
      omega
  have := key l h2
  have hm : l.length * 65546 ≤ 4096 * 65546 := Nat.mul_le_mul_right _ h1
  have hp := pvarN_le10 (n := l.length) (by omega)
  unfold plainT
  rw [List.length_cons, List.length_append]
  omega
theorem f93c {k : Nat} {h : AH} {v : Value} {l : List ByteArray} (A : Strs h v l) (hl : l.length ≤ 9223372036854775807) (hk : 4096 < k) :
    Tl (eInv env (k + 401) (.func 93) #[] #[v] h) fun r => ∃ v', r.1 = .tuple #[v', .int .i64 (checkT l)] ∧ Stt Tryz.prog h.n h r.2 [] [(v', 1, u8rows (putT l))] := by
  rw [F93_call]
  unfold F93
  refine Tl.bind (f130c (k := k + 378) A hl (by omega)) ?_
  rintro ⟨rr, h1⟩ ⟨pv, er, S1⟩
  simp only at er S1
  subst er
  unfold checkT plainG putT at *
  cases q : mayT l
  · rw [q] at S1
    simp only [Bool.false_eq_true, if_false] at S1 ⊢
    repeat (first | (with_reducible apply qzV; simp (disch := omega) only [coreA, Int.reduceBEq, bzXf] <;> with_reducible rfl) | (with_reducible first | apply qzT | apply qzF | apply qzG | apply qzH) | ((with_reducible first | apply qzB | apply qzC | apply qzD); simp (disch := omega) only [coreA, Int.reduceBEq, bzXf] <;> with_reducible rfl))
    exact ⟨_, rfl, _, rfl, S1.dropO.nil 1⟩
  rw [q] at S1
  simp only [if_true] at S1 ⊢
  repeat (first | (with_reducible apply qzV; simp (disch := omega) only [coreA, Int.reduceBEq, bzXf] <;> with_reducible rfl) | (with_reducible first | apply qzT | apply qzF | apply qzG | apply qzH) | ((with_reducible first | apply qzB | apply qzC | apply qzD); simp (disch := omega) only [coreA, Int.reduceBEq, bzXf] <;> with_reducible rfl))
  refine Tl.bind (f131c (k := k) (A.grow S1.grow) hl hk) ?_
  rintro ⟨rr, h2⟩ ⟨dv, er, S2⟩
  simp only at er S2
  subst er
  have S2 := S1.join S2
  unfold checkT dictG at *
  rw [q] at S2 ⊢
  simp only [if_true] at S2 ⊢
  have lp : ∀ h', pLen Tryz.prog #[33] pv h' = some (.int .i64 (plainT l).length) := fun h' => Bytes.len (S2.sl1 (f := u8v) 1 rfl)
  have ld : ∀ h', pLen Tryz.prog #[33] dv h' = some (.int .i64 (dictT l).length) := fun h' => Bytes.len (S2.sl1 (f := u8v) 0 rfl)
  simp only [G93_5]
  by_cases q2 : (dictT l).length < (plainT l).length
  · rw [if_pos q2]
    repeat (first | (with_reducible apply qzV; simp (disch := omega) only [coreA, Int.reduceBEq, bzXf, lp, ld] <;> with_reducible rfl) | (with_reducible first | apply qzT | apply qzF | apply qzG | apply qzH) | ((with_reducible first | apply qzB | apply qzC | apply qzD); simp (disch := omega) only [coreA, Int.reduceBEq, bzXf, lp, ld] <;> with_reducible rfl))
    exact ⟨_, rfl, _, rfl, S2.keepO (.cons_cons _ (.cons _ .slnil))⟩
  · rw [if_neg q2]
    repeat (first | (with_reducible apply qzV; simp (disch := omega) only [coreA, Int.reduceBEq, bzXf, lp, ld] <;> with_reducible rfl) | (with_reducible first | apply qzT | apply qzF | apply qzG | apply qzH) | ((with_reducible first | apply qzB | apply qzC | apply qzD); simp (disch := omega) only [coreA, Int.reduceBEq, bzXf, lp, ld] <;> with_reducible rfl))
    exact ⟨_, rfl, _, rfl, S2.keepO (.cons _ (.cons_cons _ .slnil))⟩
end
end Go.Proofs.YtghelamfaaakcaaGreat.Sh
