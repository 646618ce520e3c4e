/- What the laws of the chapter share: light inputs, a place picked; a row of one's own that is written in part. -/
import Derived.Test.YtgklcfnjahomjaaSzY9
set_option linter.unusedVariables false
set_option linter.unusedSimpArgs false
set_option maxRecDepth 100000
namespace Go.Proofs.Ytgklcfnjahomjaa.Sh
open Go Go.RowKit Go.Proofs.Ev
theorem bzY10 : type_of% (And.intro @ld3 (And.intro @ld2 (And.intro @ld9 (And.intro @ld37 (And.intro @ld28 (And.intro @ld42 (And.intro @ld34 (And.intro @ld22 (And.intro @ld24 (And.intro @ld23 (And.intro @ld29 (And.intro @fa37_0 (And.intro @fa37_1 (And.intro @fa37_2 (And.intro @fa28_0 (And.intro @fa28_1 (And.intro @fa42_0 (And.intro @fa42_1 (And.intro @fa42_2 (And.intro @nilC (And.intro @ex2_0 (And.intro @ex2_1 (@Nat.add_zero))))))))))))))))))))))):=And.intro @ld3 (And.intro @ld2 (And.intro @ld9 (And.intro @ld37 (And.intro @ld28 (And.intro @ld42 (And.intro @ld34 (And.intro @ld22 (And.intro @ld24 (And.intro @ld23 (And.intro @ld29 (And.intro @fa37_0 (And.intro @fa37_1 (And.intro @fa37_2 (And.intro @fa28_0 (And.intro @fa28_1 (And.intro @fa42_0 (And.intro @fa42_1 (And.intro @fa42_2 (And.intro @nilC (And.intro @ex2_0 (And.intro @ex2_1 (@Nat.add_zero))))))))))))))))))))))
def lightA (cols : List ColD) (rows : List (List CellD)) (by_ : List Int) (aggs : List AggD) : Bool:=lightC cols && (lightRs rows 40 && (decide (by_.length ≤ 20) && decide (aggs.length ≤ 20)))
theorem lightA_all {cols : List ColD} {rows : List (List CellD)} {by_ : List Int} {aggs : List AggD} (h : lightA cols rows by_ aggs = true) : cols.length ≤ 20 ∧ rows.length ≤ 40 ∧ (∀ r ∈ rows,r.length ≤ 20) ∧ by_.length ≤ 20 ∧ aggs.length ≤ 20:=by
 unfold lightA lightC lightRs lightR at h
 simp only [Bool.and_eq_true,decide_eq_true_eq,List.all_eq_true] at h
 obtain ⟨⟨_,h1⟩,⟨h2,h3⟩,h4,h5⟩:=h
 exact ⟨h1,by omega,fun r hr=>(h2 r hr).2,h4,h5⟩
theorem f11e {k : Nat} {h : AH} {cv rv bv av : Value} {cols : List ColD} {rows : List (List CellD)} {by_ : List Int} {aggs : List AggD} (C : Cols h cv cols) (R : Rows h rv rows) (B : IntsZ h bv by_) (G : Aggs h av aggs)
  (hcl : cols.length ≤ 9223372036854775807 ∧ cols.length < k + 2) (hrl : rows.length ≤ 9223372036854775807 ∧ rows.length < k + 2) (hls : ∀ r ∈ rows,r.length ≤ 9223372036854775807 ∧ r.length < k + 1) (hbl : by_.length ≤ 9223372036854775807) (hal : aggs.length ≤ 9223372036854775807) :
  eInv env (k + 4) (.func 11) #[] #[cv,rv,bv,av] h = some (.bool (lightA cols rows by_ aggs),h):=by
 rw [F11_call]
 have p1:=f33c (k:=k + 2) C hcl.1 hcl.2
 have p2:=f34c (k:=k + 1) 40 R hrl.1 hls hrl.2
 have hb : ∀ h',pLen Try.prog #[24] bv h' = some (.int .i64 by_.length):=fun h'=>B.len
 have ha : ∀ h',pLen Try.prog #[29] av h' = some (.int .i64 aggs.length):=fun h'=>G.len
 have T : Tl (F11 (eInv env (k + 3)) (k + 3) cv rv bv av h) fun r=>r = (.bool (lightA cols rows by_ aggs),h):=by
  unfold F11 lightA
  simp only [G11_1]
  cases q1 : lightC cols with
  | false =>
   rw [q1] at p1
   repeat (first | (with_reducible apply qzV; simp (disch:=omega) only [coreA,Int.reduceBEq,bzY10,p1] <;> with_reducible rfl) | (with_reducible first | apply qzT | apply qzF | apply qzG | apply qzH) | ((with_reducible first | apply qzB | apply qzC | apply qzD); simp (disch:=omega) only [coreA,Int.reduceBEq,bzY10,p1] <;> with_reducible rfl))
   exact ⟨_,rfl,rfl⟩
  | true =>
   rw [q1] at p1
   cases q2 : lightRs rows 40 with
   | false =>
    rw [q2] at p2
    repeat (first | (with_reducible apply qzV; simp (disch:=omega) only [coreA,Int.reduceBEq,bzY10,p1,p2] <;> with_reducible rfl) | (with_reducible first | apply qzT | apply qzF | apply qzG | apply qzH) | ((with_reducible first | apply qzB | apply qzC | apply qzD); simp (disch:=omega) only [coreA,Int.reduceBEq,bzY10,p1,p2] <;> with_reducible rfl))
    exact ⟨_,rfl,rfl⟩
   | true =>
    rw [q2] at p2
    by_cases q3 : by_.length ≤ 20
    ·by_cases q4 : aggs.length ≤ 20
     ·rw [decide_eq_true q3,decide_eq_true q4]
      repeat (first | (with_reducible apply qzV; simp (disch:=omega) only [coreA,Int.reduceBEq,bzY10,p1,p2,hb,ha] <;> with_reducible rfl) | (with_reducible first | apply qzT | apply qzF | apply qzG | apply qzH) | ((with_reducible first | apply qzB | apply qzC | apply qzD); simp (disch:=omega) only [coreA,Int.reduceBEq,bzY10,p1,p2,hb,ha] <;> with_reducible rfl))
      exact ⟨_,rfl,rfl⟩
     ·rw [decide_eq_true q3,decide_eq_false q4]
      repeat (first | (with_reducible apply qzV; simp (disch:=omega) only [coreA,Int.reduceBEq,bzY10,p1,p2,hb,ha] <;> with_reducible rfl) | (with_reducible first | apply qzT | apply qzF | apply qzG | apply qzH) | ((with_reducible first | apply qzB | apply qzC | apply qzD); simp (disch:=omega) only [coreA,Int.reduceBEq,bzY10,p1,p2,hb,ha] <;> with_reducible rfl))
      exact ⟨_,rfl,rfl⟩
    ·rw [decide_eq_false q3]
     repeat (first | (with_reducible apply qzV; simp (disch:=omega) only [coreA,Int.reduceBEq,bzY10,p1,p2,hb,ha] <;> with_reducible rfl) | (with_reducible first | apply qzT | apply qzF | apply qzG | apply qzH) | ((with_reducible first | apply qzB | apply qzC | apply qzD); simp (disch:=omega) only [coreA,Int.reduceBEq,bzY10,p1,p2,hb,ha] <;> with_reducible rfl))
     exact ⟨_,rfl,rfl⟩
 obtain ⟨r,h1,h2⟩:=T
 rw [h1,h2]
/-! ### A row that is written in part -/
section
variable {n0 : Nat} {h0 h : AH} {L : List (Nat × AO)} {O : List OS} {b : Nat} {out : List CellD}
end
end Go.Proofs.Ytgklcfnjahomjaa.Sh
