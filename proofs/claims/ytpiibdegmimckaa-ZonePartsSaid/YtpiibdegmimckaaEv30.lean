/- A range over a function, and its rounds. -/
import Derived.Test.YtpiibdegmimckaaEv29
set_option linter.unusedVariables false
set_option linter.unusedSimpArgs false
namespace Go.Proofs.Ev
open Go Go.RowKit
variable {β : Type} {E : Env} {f : FuncId} {inv : Inv} {k : Nat} {a : Act} {h : AH} {Q : β → Prop}
theorem Tl.range {fn : FuncId} {first captured : Array Value} {ps : Array Tmp} {as bd : Code} {K : XE → AH → Option β} {R : AH → Prop} (hent : E.enters (.func (.func fn) first captured) = true)
    (hcall : Tl (inv (.func fn) captured (first ++ #[.func (.yield h.n) #[] #[]]) (h.alloc (.loop .ready none f a.tmps ps as bd))) fun r => ∃ st f' ts ps' as' bd', r.2.get h.n = some (.loop st none f' ts ps' as' bd') ∧ st ≠ .busy ∧ R (r.2.set h.n (.loop .exhausted none f' ts ps' as' bd')))
    (hk : ∀ h2, R h2 → Tl (K .normal h2) Q) : Tl (kRange E f inv (.func (.func fn) first captured) ps as bd a h K) Q := by
  obtain ⟨⟨v, h'⟩, hc, st, f', ts, ps', as', bd', hg, hst, hR⟩ := hcall
  simp only at hg hR
  have : eRange f inv (.func (.func fn) first captured) ps as bd a h = some (.normal, a, h'.set h.n (.loop .exhausted none f' ts ps' as' bd')) := by
    unfold eRange
    simp only [hc, hg]
    rw [if_neg hst]
  unfold kRange
  rw [hent, this]
  exact hk _ hR
theorem Tl.rdBegin {n0 : Nat} {h0 : AH} {L : List (Nat × AO)} {l : Nat} {pend : Option Code} {f1 : FuncId} {ts1 : Array Value} {ps1 : Array Tmp} {as1 bd1 : Code} {K : AH → Option β} (S : Sta n0 h0 h L) (i : Nat)
    (hi : L[i]? = some (l, .loop .ready pend f1 ts1 ps1 as1 bd1)) (hk : ∀ h', Sta n0 h0 h' (L.set i (l, .loop .busy pend f1 ts1 ps1 as1 bd1)) → Tl (K h') Q) : Tl (Ev.rdBegin l h K) Q := by
  unfold Ev.rdBegin
  rw [S.mem.at_ hi]
  exact hk _ (S.set i hi _)
theorem rdEnd_normal {n0 : Nat} {h0 : AH} {L : List (Nat × AO)} {l : Nat} {st : LoopState} {pend : Option Code} {f1 : FuncId} {ts1 : Array Value} {ps1 : Array Tmp} {as1 bd1 : Code} (S : Sta n0 h0 h L) (i : Nat)
    (hi : L[i]? = some (l, .loop st pend f1 ts1 ps1 as1 bd1)) : ∃ h', rdEnd l .normal h = some (.bool true, h') ∧ Sta n0 h0 h' (L.set i (l, .loop .ready none f1 ts1 ps1 as1 bd1)) := by
  unfold rdEnd
  rw [S.mem.at_ hi]
  exact ⟨_, rfl, S.set i hi _⟩
theorem inv_yield {l : Nat} {args : Array Value} : eInv E (k + 1) (.yield l) #[] args h = eRound E k (eInv E k) l args h := rfl
theorem or_disj (acc g i : Nat) (h : acc < 2 ^ i) : acc ||| g * 2 ^ i = acc + g * 2 ^ i := by
  have := Nat.two_pow_add_eq_or_of_lt h g
  rw [Nat.or_comm, Nat.mul_comm g, ← this, Nat.add_comm]
end Go.Proofs.Ev
