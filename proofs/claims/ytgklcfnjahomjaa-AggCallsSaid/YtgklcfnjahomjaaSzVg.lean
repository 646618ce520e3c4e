/- Which names may be: by bytes, by runes. -/
import Derived.Test.YtgklcfnjahomjaaSzVf
import Derived.Lib.DecodeN
set_option linter.unusedVariables false
set_option linter.unusedSimpArgs false
set_option maxRecDepth 100000
namespace Go.Proofs.Ytgklcfnjahomjaa.Sh
open Go Go.RowKit Go.Proofs.Ev
theorem ex1_0 {b : Bool} : pExtract (.tuple #[.bool b]) 0 = some (.bool b):=rfl
theorem bzVg : type_of% (And.intro @ld3 (And.intro @ld9 (And.intro @ex1_0 (And.intro @ex3_0 (And.intro @ex3_1 (@ex3_2)))))):=And.intro @ld3 (And.intro @ld9 (And.intro @ex1_0 (And.intro @ex3_0 (And.intro @ex3_1 (@ex3_2)))))
/-- A letter, or a digit that does not stand first. -/
def okB (b i : Nat) : Bool:=decide ((97 ≤ b ∧ b ≤ 122) ∨ (65 ≤ b ∧ b ≤ 90) ∨ b = 95 ∨ (0 < i ∧ 48 ≤ b ∧ b ≤ 57))
def nameF (s : ByteArray) : Nat→Nat→Bool
 | 0,_=>true
 | n + 1,i=>okB (s.get! i).toNat i && nameF s n (i + 1)
def nameOk (s : ByteArray) : Bool:=decide (1 ≤ s.size) && decide (s.size ≤ 32) && nameF s s.size 0
theorem getB {s : ByteArray} {i : Nat} (h : i < s.size) : s[i]? = some (s.get! i):=by
 have h1 : s.get! i = s[i]'h:=by
  simp only [ByteArray.get!,ByteArray.getElem_eq_getElem_data]
  exact getElem!_pos ..
 rw [h1]
 exact getElem?_pos s i h
theorem idxS {s : ByteArray} {i : Nat} (h : i < s.size) : pIndex Try.prog 9 (.string s) (.int .i64 (i : Int)) = some (.int .u8 ((s.get! i).toNat : Int)):=by
 rw [index_string u9 (by omega),show ((i : Int)).toNat = i by omega,getB h]
 rfl
theorem classes (b : Nat) : b < 48 ∨ (48 ≤ b ∧ b ≤ 57) ∨ (58 ≤ b ∧ b ≤ 64) ∨ (65 ≤ b ∧ b ≤ 90) ∨ (91 ≤ b ∧ b ≤ 94) ∨ b = 95 ∨ b = 96 ∨ (97 ≤ b ∧ b ≤ 122) ∨ 123 ≤ b:=by omega
theorem f59_loop {β : Type} {inv : Inv} {k : Nat} {Q : β→Prop} {h : AH} {s : ByteArray} (hl : s.size ≤ 100) {ke0 : Value→Value→Value→AH→Option β} {kr : Value→AH→Option β} (n : Nat) :
  ∀ {i j : Nat},i + n = s.size→n < j→(nameF s n i = true→∀ y1 y2 y3,Tl (ke0 y1 y2 y3 h) Q)→(nameF s n i = false→Tl (kr (.int .i64 170) h) Q)→Tl (F59_lrlrr inv k j (.string s) (.int .i64 i) h ke0 kr) Q:=by
 have hs : ∀ h' : AH,pLen Try.prog #[9] (.string s) h' = some (.int .i64 s.size):=fun h'=>len_string u9
 induction n with
 | zero =>
  intro i j hi hj hk hr
  obtain ⟨j,rfl⟩ : ∃ q,j = q + 1:=⟨j - 1,by omega⟩
  simp only [F59_lrlrr]
  repeat (first | (with_reducible apply qzV; simp (disch:=omega) only [coreA,Int.reduceBEq,bzVg,hs] <;> with_reducible rfl) | (with_reducible first | apply qzT | apply qzF | apply qzG | apply qzH) | ((with_reducible first | apply qzB | apply qzC | apply qzD); simp (disch:=omega) only [coreA,Int.reduceBEq,bzVg,hs] <;> with_reducible rfl))
  exact hk rfl _ _ _
 | succ n ih =>
  intro i j hi hj hk hr
  obtain ⟨j,rfl⟩ : ∃ q,j = q + 1:=⟨j - 1,by omega⟩
  have hx:=idxS (s:=s) (i:=i) (by omega)
  have e : (i : Int) + 1 = ((i + 1 : Nat) : Int):=by omega
  simp only [F59_lrlrr]
  rw [nameF] at hk hr
  revert hx hk hr
  generalize (s.get! i).toNat = b
  intro hk hr hx
  have good : okB b i = true→Tl (F59_lrlrr inv k j (.string s) (.int .i64 ((i + 1 : Nat) : Int)) h ke0 kr) Q:=fun q=>by
   rw [q,Bool.true_and] at hk hr
   exact ih (by omega) (by omega) hk hr
  have bad : okB b i = false→Tl (kr (.int .i64 170) h) Q:=fun q=>hr (by rw [q,Bool.false_and])
  have no : ¬ ((97 ≤ b ∧ b ≤ 122) ∨ (65 ≤ b ∧ b ≤ 90) ∨ b = 95 ∨ (0 < i ∧ 48 ≤ b ∧ b ≤ 57))→okB b i = false:=fun q=>decide_eq_false q
  have yes : ((97 ≤ b ∧ b ≤ 122) ∨ (65 ≤ b ∧ b ≤ 90) ∨ b = 95 ∨ (0 < i ∧ 48 ≤ b ∧ b ≤ 57))→okB b i = true:=fun q=>decide_eq_true q
  clear hk hr ih
  rcases classes b with c | c | c | c | c | c | c | c | c
  ·repeat (first | (with_reducible apply qzV; simp (disch:=omega) only [coreA,Int.reduceBEq,bzVg,hs,hx] <;> with_reducible rfl) | (with_reducible first | apply qzT | apply qzF | apply qzG | apply qzH) | ((with_reducible first | apply qzB | apply qzC | apply qzD); simp (disch:=omega) only [coreA,Int.reduceBEq,bzVg,hs,hx] <;> with_reducible rfl))
   exact bad (no (by omega))
  ·by_cases i0 : i = 0
   ·repeat (first | (with_reducible apply qzV; simp (disch:=omega) only [coreA,Int.reduceBEq,bzVg,hs,hx] <;> with_reducible rfl) | (with_reducible first | apply qzT | apply qzF | apply qzG | apply qzH) | ((with_reducible first | apply qzB | apply qzC | apply qzD); simp (disch:=omega) only [coreA,Int.reduceBEq,bzVg,hs,hx] <;> with_reducible rfl))
    exact bad (no (by omega))
   ·repeat (first | (with_reducible apply qzV; simp (disch:=omega) only [coreA,Int.reduceBEq,bzVg,hs,hx] <;> with_reducible rfl) | (with_reducible first | apply qzT | apply qzF | apply qzG | apply qzH) | ((with_reducible first | apply qzB | apply qzC | apply qzD); simp (disch:=omega) only [coreA,Int.reduceBEq,bzVg,hs,hx] <;> with_reducible rfl))
    rw [e]
    exact good (yes (by omega))
  ·repeat (first | (with_reducible apply qzV; simp (disch:=omega) only [coreA,Int.reduceBEq,bzVg,hs,hx] <;> with_reducible rfl) | (with_reducible first | apply qzT | apply qzF | apply qzG | apply qzH) | ((with_reducible first | apply qzB | apply qzC | apply qzD); simp (disch:=omega) only [coreA,Int.reduceBEq,bzVg,hs,hx] <;> with_reducible rfl))
   exact bad (no (by omega))
  ·repeat (first | (with_reducible apply qzV; simp (disch:=omega) only [coreA,Int.reduceBEq,bzVg,hs,hx] <;> with_reducible rfl) | (with_reducible first | apply qzT | apply qzF | apply qzG | apply qzH) | ((with_reducible first | apply qzB | apply qzC | apply qzD); simp (disch:=omega) only [coreA,Int.reduceBEq,bzVg,hs,hx] <;> with_reducible rfl))
   rw [e]
   exact good (yes (by omega))
  ·repeat (first | (with_reducible apply qzV; simp (disch:=omega) only [coreA,Int.reduceBEq,bzVg,hs,hx] <;> with_reducible rfl) | (with_reducible first | apply qzT | apply qzF | apply qzG | apply qzH) | ((with_reducible first | apply qzB | apply qzC | apply qzD); simp (disch:=omega) only [coreA,Int.reduceBEq,bzVg,hs,hx] <;> with_reducible rfl))
   exact bad (no (by omega))
  ·repeat (first | (with_reducible apply qzV; simp (disch:=omega) only [coreA,Int.reduceBEq,bzVg,hs,hx] <;> with_reducible rfl) | (with_reducible first | apply qzT | apply qzF | apply qzG | apply qzH) | ((with_reducible first | apply qzB | apply qzC | apply qzD); simp (disch:=omega) only [coreA,Int.reduceBEq,bzVg,hs,hx] <;> with_reducible rfl))
   rw [e]
   exact good (yes (by omega))
  ·repeat (first | (with_reducible apply qzV; simp (disch:=omega) only [coreA,Int.reduceBEq,bzVg,hs,hx] <;> with_reducible rfl) | (with_reducible first | apply qzT | apply qzF | apply qzG | apply qzH) | ((with_reducible first | apply qzB | apply qzC | apply qzD); simp (disch:=omega) only [coreA,Int.reduceBEq,bzVg,hs,hx] <;> with_reducible rfl))
   exact bad (no (by omega))
  ·repeat (first | (with_reducible apply qzV; simp (disch:=omega) only [coreA,Int.reduceBEq,bzVg,hs,hx] <;> with_reducible rfl) | (with_reducible first | apply qzT | apply qzF | apply qzG | apply qzH) | ((with_reducible first | apply qzB | apply qzC | apply qzD); simp (disch:=omega) only [coreA,Int.reduceBEq,bzVg,hs,hx] <;> with_reducible rfl))
   rw [e]
   exact good (yes (by omega))
  ·repeat (first | (with_reducible apply qzV; simp (disch:=omega) only [coreA,Int.reduceBEq,bzVg,hs,hx] <;> with_reducible rfl) | (with_reducible first | apply qzT | apply qzF | apply qzG | apply qzH) | ((with_reducible first | apply qzB | apply qzC | apply qzD); simp (disch:=omega) only [coreA,Int.reduceBEq,bzVg,hs,hx] <;> with_reducible rfl))
   exact bad (no (by omega))
theorem f59e {k : Nat} (s : ByteArray) (h : AH) : eInv env (k + 101) (.func 59) #[] #[.string s] h = some (.int .i64 (if nameOk s then 0 else 170),h):=by
 rw [F59_call]
 have T : Tl (F59 (eInv env (k + 100)) (k + 100) (.string s) h) fun r=>r = (.int .i64 (if nameOk s then 0 else 170),h):=by
  have hs : ∀ h' : AH,pLen Try.prog #[9] (.string s) h' = some (.int .i64 s.size):=fun h'=>len_string u9
  unfold F59 nameOk
  by_cases s0 : 1 ≤ s.size
  ·by_cases s1 : s.size ≤ 32
   ·rw [decide_eq_true s0,decide_eq_true s1,Bool.true_and,Bool.true_and]
    repeat (first | (with_reducible apply qzV; simp (disch:=omega) only [coreA,Int.reduceBEq,bzVg,hs] <;> with_reducible rfl) | (with_reducible first | apply qzT | apply qzF | apply qzG | apply qzH) | ((with_reducible first | apply qzB | apply qzC | apply qzD); simp (disch:=omega) only [coreA,Int.reduceBEq,bzVg,hs] <;> with_reducible rfl))
    refine f59_loop (by omega) s.size (i:=0) (by omega) (by omega) (fun q y1 y2 y3=>?_) fun q=>?_
    ·rw [q]; exact ⟨_,rfl,rfl⟩
    ·rw [q]; exact ⟨_,rfl,rfl⟩
   ·rw [decide_eq_true s0,decide_eq_false s1,Bool.true_and,Bool.false_and]
    repeat (first | (with_reducible apply qzV; simp (disch:=omega) only [coreA,Int.reduceBEq,bzVg,hs] <;> with_reducible rfl) | (with_reducible first | apply qzT | apply qzF | apply qzG | apply qzH) | ((with_reducible first | apply qzB | apply qzC | apply qzD); simp (disch:=omega) only [coreA,Int.reduceBEq,bzVg,hs] <;> with_reducible rfl))
    exact ⟨_,rfl,rfl⟩
  ·rw [decide_eq_false s0,Bool.false_and,Bool.false_and]
   repeat (first | (with_reducible apply qzV; simp (disch:=omega) only [coreA,Int.reduceBEq,bzVg,hs] <;> with_reducible rfl) | (with_reducible first | apply qzT | apply qzF | apply qzG | apply qzH) | ((with_reducible first | apply qzB | apply qzC | apply qzD); simp (disch:=omega) only [coreA,Int.reduceBEq,bzVg,hs] <;> with_reducible rfl))
   exact ⟨_,rfl,rfl⟩
 obtain ⟨r,h1,h2⟩:=T
 rw [h1,h2]
/-! ### By runes -/
theorem dec_low {s : ByteArray} {i : Nat} (h : (s.get! i).toNat < 128) : Utf8.decode s i = ((s.get! i).toNat,1):=by
 rw [Lib.decode_at]
 unfold Lib.decodeN
 rw [if_pos h]
theorem dec_high {s : ByteArray} {i : Nat} (h : 128 ≤ (s.get! i).toNat) : 128 ≤ (Utf8.decode s i).1:=by
 rw [Lib.decode_at]
 unfold Lib.decodeN
 rw [if_neg (by omega)]
 repeat' split
 all_goals (simp only; omega)
theorem Tl.nxt {β : Type} {Q : β→Prop} {n0 : Nat} {h0 h : AH} {L : List (Nat × AO)} {O : List OS} {b pos : Nat} {s : ByteArray} {K : Value × AH→Option β} (S : Stt Try.prog n0 h0 h L O) (i : Nat) (hi : L[i]? = some (b,.iter s pos)) (hp : pos < s.size)
  (hk : ∀ h',Stt Try.prog n0 h0 h' (L.set i (b,.iter s (pos + (Utf8.decode s pos).2))) O→Tl (K (.tuple #[.bool true,.int .i64 pos,.int .i32 (Utf8.decode s pos).1],h')) Q) : Tl (bnd (pNext (.pointer (some ⟨b,0,none⟩)) true h) K) Q:=by
 unfold pNext
 simp only [S.sta.mem.at_ hi]
 rw [if_pos hp]
 exact hk _ (S.set i hi _)
theorem Tl.nxtE {β : Type} {Q : β→Prop} {n0 : Nat} {h0 h : AH} {L : List (Nat × AO)} {O : List OS} {b pos : Nat} {s : ByteArray} {K : Value × AH→Option β} (S : Stt Try.prog n0 h0 h L O) (i : Nat) (hi : L[i]? = some (b,.iter s pos)) (hp : ¬ pos < s.size)
  (hk : Tl (K (.tuple #[.bool false],h)) Q) : Tl (bnd (pNext (.pointer (some ⟨b,0,none⟩)) true h) K) Q:=by
 unfold pNext
 simp only [S.sta.mem.at_ hi]
 rw [if_neg hp]
 exact hk
theorem f60_loop {β : Type} {inv : Inv} {k : Nat} {Q : β→Prop} {n0 : Nat} {h0 : AH} {L : List (Nat × AO)} {O : List OS} {s : ByteArray} {b : Nat} (hl : s.size ≤ 100) {ke0 : Value→Value→Value→AH→Option β} {kr : Value→AH→Option β} (n : Nat) :
  ∀ {i j : Nat} {h : AH} {x3 x4 x19 x34 : Value},i + n = s.size→n < j→Stt Try.prog n0 h0 h ((b,.iter s i) :: L) O→(nameF s n i = true→∀ y1 y2 y3 h',Stt Try.prog n0 h0 h' ((b,.iter s s.size) :: L) O→Tl (ke0 y1 y2 y3 h') Q) →
   (nameF s n i = false→∀ h' p,Stt Try.prog n0 h0 h' ((b,.iter s p) :: L) O→Tl (kr (.int .i64 170) h') Q)→Tl (F60_lrlrrlr inv k j x3 x4 (.pointer (some ⟨b,0,none⟩)) x19 x34 h ke0 kr) Q:=by
 induction n with
 | zero =>
  intro i j h x3 x4 x19 x34 hi hj S hk hr
  obtain ⟨j,rfl⟩ : ∃ q,j = q + 1:=⟨j - 1,by omega⟩
  simp only [F60_lrlrrlr]
  refine Tl.nxtE S 0 rfl (by omega) ?_
  repeat (first | (with_reducible apply qzV; simp (disch:=omega) only [coreA,Int.reduceBEq,bzVg] <;> with_reducible rfl) | (with_reducible first | apply qzT | apply qzF | apply qzG | apply qzH) | ((with_reducible first | apply qzB | apply qzC | apply qzD); simp (disch:=omega) only [coreA,Int.reduceBEq,bzVg] <;> with_reducible rfl))
  have : i = s.size:=by omega
  subst this
  exact hk rfl _ _ _ _ S
 | succ n ih =>
  intro i j h x3 x4 x19 x34 hi hj S hk hr
  obtain ⟨j,rfl⟩ : ∃ q,j = q + 1:=⟨j - 1,by omega⟩
  simp only [F60_lrlrrlr]
  refine Tl.nxt S 0 rfl (by omega) fun h1 S1=>?_
  have S1 : Stt Try.prog n0 h0 h1 ((b,.iter s (i + (Utf8.decode s i).2)) :: L) O:=S1
  rw [nameF] at hk hr
  have good : okB (s.get! i).toNat i = true→∀ x3 x4 x19 x34,(Utf8.decode s i).2 = 1→Tl (F60_lrlrrlr inv k j x3 x4 (.pointer (some ⟨b,0,none⟩)) x19 x34 h1 ke0 kr) Q:=fun q x3 x4 x19 x34 hd=>by
   rw [q,Bool.true_and] at hk hr
   rw [hd] at S1
   exact ih (by omega) (by omega) S1 hk hr
  have bad : okB (s.get! i).toNat i = false→Tl (kr (.int .i64 170) h1) Q:=fun q=>hr (by rw [q,Bool.false_and]) _ _ S1
  unfold F60_rlllrlrrllrlrrlr
  by_cases hh : (s.get! i).toNat < 128
  ·have hd:=dec_low hh
   have hd1 : (Utf8.decode s i).1 = (s.get! i).toNat:=by rw [hd]
   have hd2 : (Utf8.decode s i).2 = 1:=by rw [hd]
   rw [hd1]
   clear hk hr ih hd
   revert good bad
   generalize (s.get! i).toNat = b at hh hd1 ⊢
   intro good bad
   have no : ¬ ((97 ≤ b ∧ b ≤ 122) ∨ (65 ≤ b ∧ b ≤ 90) ∨ b = 95 ∨ (0 < i ∧ 48 ≤ b ∧ b ≤ 57))→okB b i = false:=fun q=>decide_eq_false q
   have yes : ((97 ≤ b ∧ b ≤ 122) ∨ (65 ≤ b ∧ b ≤ 90) ∨ b = 95 ∨ (0 < i ∧ 48 ≤ b ∧ b ≤ 57))→okB b i = true:=fun q=>decide_eq_true q
   rcases classes b with c | c | c | c | c | c | c | c | c
   ·by_cases i0 : i = 0
    ·repeat (first | (with_reducible apply qzV; simp (disch:=omega) only [coreA,Int.reduceBEq,bzVg] <;> with_reducible rfl) | (with_reducible first | apply qzT | apply qzF | apply qzG | apply qzH) | ((with_reducible first | apply qzB | apply qzC | apply qzD); simp (disch:=omega) only [coreA,Int.reduceBEq,bzVg] <;> with_reducible rfl))
     exact bad (no (by omega))
    ·repeat (first | (with_reducible apply qzV; simp (disch:=omega) only [coreA,Int.reduceBEq,bzVg] <;> with_reducible rfl) | (with_reducible first | apply qzT | apply qzF | apply qzG | apply qzH) | ((with_reducible first | apply qzB | apply qzC | apply qzD); simp (disch:=omega) only [coreA,Int.reduceBEq,bzVg] <;> with_reducible rfl))
     exact bad (no (by omega))
   ·by_cases i0 : i = 0
    ·repeat (first | (with_reducible apply qzV; simp (disch:=omega) only [coreA,Int.reduceBEq,bzVg] <;> with_reducible rfl) | (with_reducible first | apply qzT | apply qzF | apply qzG | apply qzH) | ((with_reducible first | apply qzB | apply qzC | apply qzD); simp (disch:=omega) only [coreA,Int.reduceBEq,bzVg] <;> with_reducible rfl))
     exact bad (no (by omega))
    ·repeat (first | (with_reducible apply qzV; simp (disch:=omega) only [coreA,Int.reduceBEq,bzVg] <;> with_reducible rfl) | (with_reducible first | apply qzT | apply qzF | apply qzG | apply qzH) | ((with_reducible first | apply qzB | apply qzC | apply qzD); simp (disch:=omega) only [coreA,Int.reduceBEq,bzVg] <;> with_reducible rfl))
     exact good (yes (by omega)) _ _ _ _ hd2
   ·by_cases i0 : i = 0
    ·repeat (first | (with_reducible apply qzV; simp (disch:=omega) only [coreA,Int.reduceBEq,bzVg] <;> with_reducible rfl) | (with_reducible first | apply qzT | apply qzF | apply qzG | apply qzH) | ((with_reducible first | apply qzB | apply qzC | apply qzD); simp (disch:=omega) only [coreA,Int.reduceBEq,bzVg] <;> with_reducible rfl))
     exact bad (no (by omega))
    ·repeat (first | (with_reducible apply qzV; simp (disch:=omega) only [coreA,Int.reduceBEq,bzVg] <;> with_reducible rfl) | (with_reducible first | apply qzT | apply qzF | apply qzG | apply qzH) | ((with_reducible first | apply qzB | apply qzC | apply qzD); simp (disch:=omega) only [coreA,Int.reduceBEq,bzVg] <;> with_reducible rfl))
     exact bad (no (by omega))
   ·repeat (first | (with_reducible apply qzV; simp (disch:=omega) only [coreA,Int.reduceBEq,bzVg] <;> with_reducible rfl) | (with_reducible first | apply qzT | apply qzF | apply qzG | apply qzH) | ((with_reducible first | apply qzB | apply qzC | apply qzD); simp (disch:=omega) only [coreA,Int.reduceBEq,bzVg] <;> with_reducible rfl))
    exact good (yes (by omega)) _ _ _ _ hd2
   ·by_cases i0 : i = 0
    ·repeat (first | (with_reducible apply qzV; simp (disch:=omega) only [coreA,Int.reduceBEq,bzVg] <;> with_reducible rfl) | (with_reducible first | apply qzT | apply qzF | apply qzG | apply qzH) | ((with_reducible first | apply qzB | apply qzC | apply qzD); simp (disch:=omega) only [coreA,Int.reduceBEq,bzVg] <;> with_reducible rfl))
     exact bad (no (by omega))
    ·repeat (first | (with_reducible apply qzV; simp (disch:=omega) only [coreA,Int.reduceBEq,bzVg] <;> with_reducible rfl) | (with_reducible first | apply qzT | apply qzF | apply qzG | apply qzH) | ((with_reducible first | apply qzB | apply qzC | apply qzD); simp (disch:=omega) only [coreA,Int.reduceBEq,bzVg] <;> with_reducible rfl))
     exact bad (no (by omega))
   ·repeat (first | (with_reducible apply qzV; simp (disch:=omega) only [coreA,Int.reduceBEq,bzVg] <;> with_reducible rfl) | (with_reducible first | apply qzT | apply qzF | apply qzG | apply qzH) | ((with_reducible first | apply qzB | apply qzC | apply qzD); simp (disch:=omega) only [coreA,Int.reduceBEq,bzVg] <;> with_reducible rfl))
    exact good (yes (by omega)) _ _ _ _ hd2
   ·by_cases i0 : i = 0
    ·repeat (first | (with_reducible apply qzV; simp (disch:=omega) only [coreA,Int.reduceBEq,bzVg] <;> with_reducible rfl) | (with_reducible first | apply qzT | apply qzF | apply qzG | apply qzH) | ((with_reducible first | apply qzB | apply qzC | apply qzD); simp (disch:=omega) only [coreA,Int.reduceBEq,bzVg] <;> with_reducible rfl))
     exact bad (no (by omega))
    ·repeat (first | (with_reducible apply qzV; simp (disch:=omega) only [coreA,Int.reduceBEq,bzVg] <;> with_reducible rfl) | (with_reducible first | apply qzT | apply qzF | apply qzG | apply qzH) | ((with_reducible first | apply qzB | apply qzC | apply qzD); simp (disch:=omega) only [coreA,Int.reduceBEq,bzVg] <;> with_reducible rfl))
     exact bad (no (by omega))
   ·repeat (first | (with_reducible apply qzV; simp (disch:=omega) only [coreA,Int.reduceBEq,bzVg] <;> with_reducible rfl) | (with_reducible first | apply qzT | apply qzF | apply qzG | apply qzH) | ((with_reducible first | apply qzB | apply qzC | apply qzD); simp (disch:=omega) only [coreA,Int.reduceBEq,bzVg] <;> with_reducible rfl))
    exact good (yes (by omega)) _ _ _ _ hd2
   ·by_cases i0 : i = 0
    ·repeat (first | (with_reducible apply qzV; simp (disch:=omega) only [coreA,Int.reduceBEq,bzVg] <;> with_reducible rfl) | (with_reducible first | apply qzT | apply qzF | apply qzG | apply qzH) | ((with_reducible first | apply qzB | apply qzC | apply qzD); simp (disch:=omega) only [coreA,Int.reduceBEq,bzVg] <;> with_reducible rfl))
     exact bad (no (by omega))
    ·repeat (first | (with_reducible apply qzV; simp (disch:=omega) only [coreA,Int.reduceBEq,bzVg] <;> with_reducible rfl) | (with_reducible first | apply qzT | apply qzF | apply qzG | apply qzH) | ((with_reducible first | apply qzB | apply qzC | apply qzD); simp (disch:=omega) only [coreA,Int.reduceBEq,bzVg] <;> with_reducible rfl))
     exact bad (no (by omega))
  ·have hd1:=dec_high (s:=s) (i:=i) (by omega)
   have nb : okB (s.get! i).toNat i = false:=decide_eq_false (by omega)
   generalize (Utf8.decode s i).1 = r at hd1 ⊢
   by_cases i0 : i = 0
   ·repeat (first | (with_reducible apply qzV; simp (disch:=omega) only [coreA,Int.reduceBEq,bzVg] <;> with_reducible rfl) | (with_reducible first | apply qzT | apply qzF | apply qzG | apply qzH) | ((with_reducible first | apply qzB | apply qzC | apply qzD); simp (disch:=omega) only [coreA,Int.reduceBEq,bzVg] <;> with_reducible rfl))
    exact bad nb
   ·repeat (first | (with_reducible apply qzV; simp (disch:=omega) only [coreA,Int.reduceBEq,bzVg] <;> with_reducible rfl) | (with_reducible first | apply qzT | apply qzF | apply qzG | apply qzH) | ((with_reducible first | apply qzB | apply qzC | apply qzD); simp (disch:=omega) only [coreA,Int.reduceBEq,bzVg] <;> with_reducible rfl))
    exact bad nb
theorem f60c {k : Nat} (s : ByteArray) (h : AH) : Tl (eInv env (k + 101) (.func 60) #[] #[.string s] h) fun r=>r.1 = .int .i64 (if nameOk s then 0 else 170) ∧ Grow h r.2:=by
 rw [F60_call]
 have hs : ∀ h' : AH,pLen Try.prog #[9] (.string s) h' = some (.int .i64 s.size):=fun h'=>len_string u9
 unfold F60 nameOk
 by_cases s0 : 1 ≤ s.size
 ·by_cases s1 : s.size ≤ 32
  ·rw [decide_eq_true s0,decide_eq_true s1,Bool.true_and,Bool.true_and]
   have hrg : pRange Try.prog 9 (.string s) h = some (.pointer (some ⟨h.n,0,none⟩),h.alloc (.iter s 0)):=by
    unfold pRange
    rw [u9]
   repeat (first | (with_reducible apply qzV; simp (disch:=omega) only [coreA,Int.reduceBEq,bzVg,hs,hrg] <;> with_reducible rfl) | (with_reducible first | apply qzT | apply qzF | apply qzG | apply qzH) | ((with_reducible first | apply qzB | apply qzC | apply qzD); simp (disch:=omega) only [coreA,Int.reduceBEq,bzVg,hs,hrg] <;> with_reducible rfl))
   have S:=(Stt.init h : Stt Try.prog h.n h h [] []).alloc (.iter s 0)
   refine f60_loop (by omega) s.size (i:=0) (by omega) (by omega) S (fun q y1 y2 y3 h' S'=>?_) fun q h' p S'=>?_
   ·rw [q]; exact ⟨_,rfl,rfl,S'.grow⟩
   ·rw [q]; exact ⟨_,rfl,rfl,S'.grow⟩
  ·rw [decide_eq_true s0,decide_eq_false s1,Bool.true_and,Bool.false_and]
   repeat (first | (with_reducible apply qzV; simp (disch:=omega) only [coreA,Int.reduceBEq,bzVg,hs] <;> with_reducible rfl) | (with_reducible first | apply qzT | apply qzF | apply qzG | apply qzH) | ((with_reducible first | apply qzB | apply qzC | apply qzD); simp (disch:=omega) only [coreA,Int.reduceBEq,bzVg,hs] <;> with_reducible rfl))
   exact ⟨_,rfl,rfl,Grow.refl _⟩
 ·rw [decide_eq_false s0,Bool.false_and,Bool.false_and]
  repeat (first | (with_reducible apply qzV; simp (disch:=omega) only [coreA,Int.reduceBEq,bzVg,hs] <;> with_reducible rfl) | (with_reducible first | apply qzT | apply qzF | apply qzG | apply qzH) | ((with_reducible first | apply qzB | apply qzC | apply qzD); simp (disch:=omega) only [coreA,Int.reduceBEq,bzVg,hs] <;> with_reducible rfl))
  exact ⟨_,rfl,rfl,Grow.refl _⟩
end Go.Proofs.Ytgklcfnjahomjaa.Sh
