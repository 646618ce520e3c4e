/- Rows held against each other. -/
import Derived.Test.YtgklcfnjahomjaaSzVm
set_option linter.unusedVariables false
set_option linter.unusedSimpArgs false
set_option maxRecDepth 100000
namespace Go.Proofs.Ytgklcfnjahomjaa.Sh
open Go Go.RowKit Go.Proofs.Ev
theorem bzVv : type_of% (And.intro @ld3 (And.intro @ld34 (And.intro @ld37 (And.intro @ld23 (@Nat.add_zero))))):=And.intro @ld3 (And.intro @ld34 (And.intro @ld37 (And.intro @ld23 (@Nat.add_zero))))
theorem take_snoc {α : Type} {l : List α} {i : Nat} {x : α} (h : l[i]? = some x) : l.take (i + 1) = l.take i ++ [x]:=by rw [List.take_add_one,h]; rfl
theorem ne_of_at {α : Type} {a b : List α} {i : Nat} {x y : α} (ha : a[i]? = some x) (hb : b[i]? = some y) (h : x ≠ y) : a ≠ b:=by
 rintro rfl
 rw [ha] at hb
 exact h (Option.some.inj hb)
theorem f16_in {β : Type} {inv : Inv} {k : Nat} {Q : β→Prop} {h : AH} {va vb wa wb : Value} {ra rb : List CellD} {i : Nat} {ba oa bb ob : Nat} (hpa : pIndexAddr Try.prog 23 va (.int .i64 i) = some (.pointer (some ⟨ba,oa,none⟩))) (hca : h.cell ba oa = some wa) (A : Cells h wa ra)
  (hpb : pIndexAddr Try.prog 23 vb (.int .i64 i) = some (.pointer (some ⟨bb,ob,none⟩))) (hcb : h.cell bb ob = some wb) (B : Cells h wb rb) (hl : ra.length ≤ 2 ^ 40) (hab : ra.length = rb.length)
  {ke2 : Value→Value→Value→Value→Value→AH→Option β} {kr : Value→AH→Option β} (n : Nat) :
  ∀ {m j : Nat},m + n = ra.length→n < j→ra.take m = rb.take m→(ra = rb→∀ y1 y2,Tl (ke2 va vb (.int .i64 i) y1 y2 h) Q)→(ra ≠ rb→Tl (kr (.bool false) h) Q) →
   Tl (F16_lrrllrllrlrr inv k j va vb (.int .i64 i) (.int .i64 m) h ke2 kr) Q:=by
 have hv : ∀ h',pLen Try.prog #[34] wa h' = some (.int .i64 ra.length):=fun h'=>A.len
 induction n with
 | zero =>
  intro m j hm hj ht hk hr
  obtain ⟨j,rfl⟩ : ∃ q,j = q + 1:=⟨j - 1,by omega⟩
  simp only [F16_lrrllrllrlrr]
  repeat (first | (with_reducible apply qzV; simp (disch:=omega) only [coreA,Int.reduceBEq,bzVv,hpa,hca,hv] <;> with_reducible rfl) | (with_reducible first | apply qzT | apply qzF | apply qzG | apply qzH) | ((with_reducible first | apply qzB | apply qzC | apply qzD); simp (disch:=omega) only [coreA,Int.reduceBEq,bzVv,hpa,hca,hv] <;> with_reducible rfl))
  exact hk (by rwa [List.take_of_length_le (by omega),List.take_of_length_le (by omega)] at ht) _ _
 | succ n ih =>
  intro m j hm hj ht hk hr
  obtain ⟨j,rfl⟩ : ∃ q,j = q + 1:=⟨j - 1,by omega⟩
  obtain ⟨x,ex⟩ : ∃ x,ra[m]? = some x:=⟨_,List.getElem?_eq_getElem (by omega)⟩
  obtain ⟨y,ey⟩ : ∃ y,rb[m]? = some y:=⟨_,List.getElem?_eq_getElem (by omega)⟩
  obtain ⟨b,o,hp,hrow⟩:=A.at_ ex
  obtain ⟨b',o',hp',hrow'⟩:=B.at_ ey
  have e : (m : Int) + 1 = ((m + 1 : Nat) : Int):=by omega
  have hne : ∀ ox oy,pBin Try.prog .neq 37 ox oy (.agg (crow x).toArray) (.agg (crow y).toArray) = some (.bool (!decide (x = y))):=fun ox oy=>neqC x y
  simp only [F16_lrrllrllrlrr]
  by_cases q : x = y
  ·rw [decide_eq_true q] at hne
   repeat (first | (with_reducible apply qzV; simp (disch:=omega) only [coreA,Int.reduceBEq,bzVv,hpa,hca,hv,hpb,hcb,hp,hrow,hp',hrow',hne] <;> with_reducible rfl) | (with_reducible first | apply qzT | apply qzF | apply qzG | apply qzH) | ((with_reducible first | apply qzB | apply qzC | apply qzD); simp (disch:=omega) only [coreA,Int.reduceBEq,bzVv,hpa,hca,hv,hpb,hcb,hp,hrow,hp',hrow',hne] <;> with_reducible rfl))
   rw [e]
   exact ih (by omega) (by omega) (by rw [take_snoc ex,take_snoc ey,ht,q]) hk hr
  ·rw [decide_eq_false q] at hne
   repeat (first | (with_reducible apply qzV; simp (disch:=omega) only [coreA,Int.reduceBEq,bzVv,hpa,hca,hv,hpb,hcb,hp,hrow,hp',hrow',hne] <;> with_reducible rfl) | (with_reducible first | apply qzT | apply qzF | apply qzG | apply qzH) | ((with_reducible first | apply qzB | apply qzC | apply qzD); simp (disch:=omega) only [coreA,Int.reduceBEq,bzVv,hpa,hca,hv,hpb,hcb,hp,hrow,hp',hrow',hne] <;> with_reducible rfl))
   exact hr (ne_of_at ex ey q)
theorem f16_out {β : Type} {inv : Inv} {k : Nat} {Q : β→Prop} {h : AH} {va vb : Value} {ra rb : List (List CellD)} (A : Rows h va ra) (B : Rows h vb rb) (hl : ra.length ≤ 2 ^ 40) (hab : ra.length = rb.length)
  (ha : ∀ r ∈ ra,r.length ≤ 2 ^ 40 ∧ r.length < k) (hb : ∀ r ∈ rb,r.length ≤ 2 ^ 40) {ke0 : Value→Value→Value→Value→AH→Option β} {kr : Value→AH→Option β} (n : Nat) :
  ∀ {i j : Nat},i + n = ra.length→n < j→ra.take i = rb.take i→(ra = rb→∀ y1 y2,Tl (ke0 va vb y1 y2 h) Q)→(ra ≠ rb→Tl (kr (.bool false) h) Q) →
   Tl (F16_lrlrr inv k j va vb (.int .i64 i) h ke0 kr) Q:=by
 have hv : ∀ h',pLen Try.prog #[23] va h' = some (.int .i64 ra.length):=fun h'=>A.len
 induction n with
 | zero =>
  intro i j hi hj ht hk hr
  obtain ⟨j,rfl⟩ : ∃ q,j = q + 1:=⟨j - 1,by omega⟩
  simp only [F16_lrlrr]
  repeat (first | (with_reducible apply qzV; simp (disch:=omega) only [coreA,Int.reduceBEq,bzVv,hv] <;> with_reducible rfl) | (with_reducible first | apply qzT | apply qzF | apply qzG | apply qzH) | ((with_reducible first | apply qzB | apply qzC | apply qzD); simp (disch:=omega) only [coreA,Int.reduceBEq,bzVv,hv] <;> with_reducible rfl))
  exact hk (by rwa [List.take_of_length_le (by omega),List.take_of_length_le (by omega)] at ht) _ _
 | succ n ih =>
  intro i j hi hj ht hk hr
  obtain ⟨j,rfl⟩ : ∃ q,j = q + 1:=⟨j - 1,by omega⟩
  obtain ⟨x,ex⟩ : ∃ x,ra[i]? = some x:=⟨_,List.getElem?_eq_getElem (by omega)⟩
  obtain ⟨y,ey⟩ : ∃ y,rb[i]? = some y:=⟨_,List.getElem?_eq_getElem (by omega)⟩
  obtain ⟨b,o,w,hp,hc,C⟩:=A.at_ ex
  obtain ⟨b',o',w',hp',hc',C'⟩:=B.at_ ey
  have hw : ∀ h',pLen Try.prog #[34] w h' = some (.int .i64 x.length):=fun h'=>C.len
  have hw' : ∀ h',pLen Try.prog #[34] w' h' = some (.int .i64 y.length):=fun h'=>C'.len
  have e : (i : Int) + 1 = ((i + 1 : Nat) : Int):=by omega
  obtain ⟨m1,m2⟩:=ha x (List.mem_of_getElem? ex)
  have m3:=hb y (List.mem_of_getElem? ey)
  simp only [F16_lrlrr]
  by_cases q : x.length = y.length
  ·repeat (first | (with_reducible apply qzV; simp (disch:=omega) only [coreA,Int.reduceBEq,bzVv,hv,hp,hc,hp',hc',hw,hw'] <;> with_reducible rfl) | (with_reducible first | apply qzT | apply qzF | apply qzG | apply qzH) | ((with_reducible first | apply qzB | apply qzC | apply qzD); simp (disch:=omega) only [coreA,Int.reduceBEq,bzVv,hv,hp,hc,hp',hc',hw,hw'] <;> with_reducible rfl))
   refine f16_in hp hc C hp' hc' C' m1 q x.length (m:=0) (by omega) m2 rfl (fun exy y1 y2=>?_) fun hne=>?_
   ·repeat (first | (with_reducible apply qzV; simp (disch:=omega) only [coreA,Int.reduceBEq,bzVv] <;> with_reducible rfl) | (with_reducible first | apply qzT | apply qzF | apply qzG | apply qzH) | ((with_reducible first | apply qzB | apply qzC | apply qzD); simp (disch:=omega) only [coreA,Int.reduceBEq,bzVv] <;> with_reducible rfl))
    rw [e]
    exact ih (by omega) (by omega) (by rw [take_snoc ex,take_snoc ey,ht,exy]) hk hr
   ·exact hr (ne_of_at ex ey hne)
  ·repeat (first | (with_reducible apply qzV; simp (disch:=omega) only [coreA,Int.reduceBEq,bzVv,hv,hp,hc,hp',hc',hw,hw'] <;> with_reducible rfl) | (with_reducible first | apply qzT | apply qzF | apply qzG | apply qzH) | ((with_reducible first | apply qzB | apply qzC | apply qzD); simp (disch:=omega) only [coreA,Int.reduceBEq,bzVv,hv,hp,hc,hp',hc',hw,hw'] <;> with_reducible rfl))
   exact hr (ne_of_at ex ey fun e=>q (by rw [e]))
theorem f16e {k : Nat} {h : AH} {va vb : Value} {ra rb : List (List CellD)} (A : Rows h va ra) (B : Rows h vb rb) (hl : ra.length ≤ 2 ^ 40) (hl2 : rb.length ≤ 2 ^ 40) (ha : ∀ r ∈ ra,r.length ≤ 2 ^ 40 ∧ r.length < k) (hb : ∀ r ∈ rb,r.length ≤ 2 ^ 40) (hk : ra.length < k) :
  eInv env (k + 1) (.func 16) #[] #[va,vb] h = some (.bool (decide (ra = rb)),h):=by
 rw [F16_call]
 have hv : ∀ h',pLen Try.prog #[23] va h' = some (.int .i64 ra.length):=fun h'=>A.len
 have hv2 : ∀ h',pLen Try.prog #[23] vb h' = some (.int .i64 rb.length):=fun h'=>B.len
 have T : Tl (F16 (eInv env k) k va vb h) fun r=>r = (.bool (decide (ra = rb)),h):=by
  unfold F16
  by_cases q : ra.length = rb.length
  ·repeat (first | (with_reducible apply qzV; simp (disch:=omega) only [coreA,Int.reduceBEq,bzVv,hv,hv2] <;> with_reducible rfl) | (with_reducible first | apply qzT | apply qzF | apply qzG | apply qzH) | ((with_reducible first | apply qzB | apply qzC | apply qzD); simp (disch:=omega) only [coreA,Int.reduceBEq,bzVv,hv,hv2] <;> with_reducible rfl))
   refine f16_out A B hl q ha hb ra.length (i:=0) (by omega) (by omega) rfl (fun e y1 y2=>⟨_,rfl,?_⟩) fun hne=>⟨_,rfl,?_⟩
   ·rw [decide_eq_true e]
   ·rw [decide_eq_false hne]
  ·repeat (first | (with_reducible apply qzV; simp (disch:=omega) only [coreA,Int.reduceBEq,bzVv,hv,hv2] <;> with_reducible rfl) | (with_reducible first | apply qzT | apply qzF | apply qzG | apply qzH) | ((with_reducible first | apply qzB | apply qzC | apply qzD); simp (disch:=omega) only [coreA,Int.reduceBEq,bzVv,hv,hv2] <;> with_reducible rfl))
   exact ⟨_,rfl,by rw [decide_eq_false (fun e=>q (by rw [e]))]⟩
 obtain ⟨r,h1,h2⟩:=T
 rw [h1,h2]
end Go.Proofs.Ytgklcfnjahomjaa.Sh
