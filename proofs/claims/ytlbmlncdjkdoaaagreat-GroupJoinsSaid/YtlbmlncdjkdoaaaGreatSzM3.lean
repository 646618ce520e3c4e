/- What lies ahead of the law, put together. -/
import Derived.Test.YtlbmlncdjkdoaaaGreatSzM2
import Derived.Test.YtlbmlncdjkdoaaaGreatSzF
import Derived.Test.YtlbmlncdjkdoaaaGreatSzT
import Derived.Test.YtlbmlncdjkdoaaaGreatOrdC
import Derived.Test.YtlbmlncdjkdoaaaGreatEvC
import Derived.Test.YtlbmlncdjkdoaaaGreatSzM1
/- What the functions of the ints' package come to: 'Plain', 'Runs', 'Packed'. -/
set_option linter.unusedVariables false
set_option linter.unusedSimpArgs false
set_option maxRecDepth 100000
namespace Go.Proofs.YtlbmlncdjkdoaaaGreat.Sh
open Go Go.RowKit Go.Proofs.Ev
open Tryz (prog)
def bzIa:=PLift.up (ai @ld3 (ai @ld2 (ai @ld4 (ai @ld5 (ai @ld121 (ai @ld93 (ai @ld163 (ai @ld124 (ai (fun a h=>conv_int (a:=a) (h:=h) u3 u121) (ai (fun a h=>conv_int (a:=a) (h:=h) u2 u121) (ai (fun a h=>conv_int (a:=a) (h:=h) u121 u5) (ai (fun a h=>conv_int (a:=a) (h:=h) u121 u2) (ai (fun a h=>conv_int (a:=a) (h:=h) u3 u5) (ai @ex2_0 (@ex2_1)))))))))))))))
def i6v (z : Int) : Value:=.int .i64 z
def Ints (h : AH) (v : Value) (l : List Int) : Prop:=Sl1 prog h v i6v l
def i6rows (l : List Int) : List (List Value):=l.map fun z=>[i6v z]
/-- A number with a sign as one without. -/
def toU (z : Int) : Nat:=(z % 18446744073709551616).toNat
theorem toU_lt (z : Int) : toU z < 18446744073709551616:=by unfold toU; omega
theorem wrapU (z : Int) : IntKind.u64.wrap z = (toU z : Int):=by rw [wrap_u64]; unfold toU; omega
theorem dropc {α : Type} {l : List α} {i : Nat} {x : α} (h : l[i]? = some x) : l.drop i = x :: l.drop (i + 1):=by
 have hlt : i < l.length:=(List.getElem?_eq_some_iff.1 h).1
 rw [List.drop_eq_getElem_cons hlt]
 rw [List.getElem?_eq_getElem hlt] at h
 cases h; rfl
/-! ### Eight bytes, put -/
theorem shrK (x i : Nat) (hi : i < 8) : ∀ t a b,pBin prog Go.BinOp.shr t a b (.int .u64 (x : Int)) (.int .i64 (8 * (i : Int))) = some (.int .u64 ((x / 2 ^ (8 * i) : Nat) : Int)):=fun t a b=>by
 rw [shr_nn (by omega)]
 have e1 : min ((8 * (i : Int))).toNat IntKind.u64.bits = 8 * i:=by
  have : IntKind.u64.bits = 64:=rfl
  rw [this]; omega
 rw [e1,Int.fdiv_eq_ediv_of_nonneg _ (by exact_mod_cast Nat.zero_le _)]
 simp
theorem f125_loop {β : Type} {k : Nat} {Q : β→Prop} {n0 : Nat} {h0 : AH} {L : List (Nat × AO)} {O : List OS} {x : Nat} {ke0 : Value→Value→Value→Value→Value→AH→Option β} (r : Nat) :
  ∀ {i j : Nat} {h : AH} {v : Value} {l : List Nat},i + r = 8→r < j→l.length + r ≤ 2 ^ 30→Stt prog n0 h0 h L ((v,1,u8rows l) :: O) →
   (∀ h' v' y16 y,Stt prog n0 h0 h' L ((v',1,u8rows (l ++ le x i r)) :: O)→Tl (ke0 v' (.int .u64 x) (.int .i64 8) y16 y h') Q) →
   Tl (F125_lrlrr (eInv env k) k j v (.int .u64 (x : Int)) (.int .i64 8) (.int .i64 (i : Int)) h ke0) Q:=by
 induction r with
 | zero =>
  intro i j h v l hi hj hl S hk
  obtain ⟨j,rfl⟩ : ∃ q,j = q + 1:=⟨j - 1,by omega⟩
  simp only [F125_lrlrr]
  with_reducible repeat (first | (apply qzV; simp (disch:=omega) only [zA,bzIa.1] <;> rfl) | apply qzT | apply qzF | apply qzG | ((first | apply qzB | apply qzC); simp (disch:=omega) only [zA,bzIa.1] <;> rfl))
  exact hk _ _ _ _ (by simpa [le] using S)
 | succ r ih =>
  intro i j h v l hi hj hl S hk
  obtain ⟨j,rfl⟩ : ∃ q,j = q + 1:=⟨j - 1,by omega⟩
  have wb : IntKind.u8.wrap ((x / 2 ^ (8 * i) : Nat) : Int) = ((x / 2 ^ (8 * i) % 256 : Nat) : Int):=by rw [wrap_u8]; omega
  have e : (i : Int) + 1 = ((i + 1 : Nat) : Int):=by omega
  simp only [F125_lrlrr]
  with_reducible repeat (first | (apply qzV; simp (disch:=omega) only [zA,bzIa.1,shrK x i (by omega),wb] <;> rfl) | apply qzT | apply qzF | apply qzG | ((first | apply qzB | apply qzC); simp (disch:=omega) only [zA,bzIa.1,shrK x i (by omega),wb] <;> rfl))
  refine Tl.push S 0 rfl app93 (bs93 _ _) rfl rfl (by rw [u8rows_len]; omega) fun v' h' S'=>?_
  with_reducible repeat (first | (apply qzV; simp (disch:=omega) only [zA,bzIa.1] <;> rfl) | apply qzT | apply qzF | apply qzG | ((first | apply qzB | apply qzC); simp (disch:=omega) only [zA,bzIa.1] <;> rfl))
  rw [e]
  refine ih (l:=l ++ [x / 2 ^ (8 * i) % 256]) (by omega) (by omega) (by simp; omega) (by simpa [u8rows,u8v] using S') fun h2 v2 y16 y S2=>hk h2 v2 y16 y ?_
  rw [le]
  simpa using S2
theorem f125c {k : Nat} {n0 : Nat} {h0 h : AH} {L : List (Nat × AO)} {O : List OS} {v : Value} {l : List Nat} (x : Nat) (hl : l.length ≤ 2 ^ 29) (S : Stt prog n0 h0 h L ((v,1,u8rows l) :: O)) :
  Tl (eInv env (k + 20) (.func 125) #[] #[v,.int .u64 (x : Int),.int .i64 8] h) fun r=>Stt prog n0 h0 r.2 L ((r.1,1,u8rows (l ++ le x 0 8)) :: O):=by
 rw [F125_call]
 unfold F125
 with_reducible repeat (first | (apply qzV; simp (disch:=omega) only [zA,bzIa.1] <;> rfl) | apply qzT | apply qzF | apply qzG | ((first | apply qzB | apply qzC); simp (disch:=omega) only [zA,bzIa.1] <;> rfl))
 refine f125_loop (k:=k + 19) 8 (i:=0) (by omega) (by omega) (by omega) S fun h' v' y16 y S'=>?_
 exact ⟨_,rfl,S'⟩
/-! ### A form's head -/
def headB (f n : Nat) : List Nat:=f :: pvarN n
theorem f212c {k : Nat} {n0 : Nat} {h0 h : AH} {L : List (Nat × AO)} {O : List OS} {f n : Nat} (hn : n ≤ 100000) (S : Stt prog n0 h0 h L O) :
  Tl (eInv env (k + 21) (.func 212) #[] #[.int .u8 (f : Int),.int .i64 (n : Int)] h) fun r=>Stt prog n0 h0 r.2 L ((r.1,1,u8rows (headB f n)) :: O):=by
 rw [F212_call]
 unfold F212
 with_reducible repeat (first | (apply qzV; simp (disch:=omega) only [zA,bzIa.1,bs93] <;> rfl) | apply qzT | apply qzF | (apply qzB; simp (disch:=omega) only [zA,bzIa.1,bs93] <;> rfl))
 have S1 : Stt prog n0 h0 (h.alloc (.cells (u8rows [f]).flatten 5 true)) ((h.n,.cells (u8rows [f]).flatten 5 true) :: L) O:=S.alloc _
 have S2:=S1.absorb (n:=1) (u8v_wide [f]) sz5
 have T:=f86c (k:=k) (l:=[f]) n (by omega) (by simp) S2
 exact Tl.bind T fun r hr=>⟨_,rfl,hr⟩
/-! ### 'Plain' -/
def plainB (l : List Int) : List Nat:=headB 1 l.length ++ l.flatMap fun z=>le (toU z) 0 8
theorem flat8_len (l : List Int) : (l.flatMap fun z=>le (toU z) 0 8).length = 8 * l.length:=by
 induction l with
 | nil=>rfl
 | cons z l ih=>simp [ih,le_len]; omega
theorem f192_loop {β : Type} {k : Nat} {Q : β→Prop} {h0 : AH} {v : Value} {l : List Int} (A : Ints h0 v l) (hl : l.length ≤ 5000) {ke0 : Value→Value→Value→Value→Value→AH→Option β} (n : Nat) :
  ∀ {i j : Nat} {h : AH} {ov : Value} {done : List Nat},i + n = l.length→n < j→done.length ≤ 20 + 8 * i→Stt prog h0.n h0 h [] [(ov,1,u8rows done)] →
   (∀ h' ov' y y',Stt prog h0.n h0 h' [] [(ov',1,u8rows (done ++ (l.drop i).flatMap fun z=>le (toU z) 0 8))]→Tl (ke0 ov' v (.int .i64 l.length) y y' h') Q) →
   Tl (F192_lrlrrr (eInv env (k + 20)) (k + 20) j ov v (.int .i64 l.length) (.int .i64 i) h ke0) Q:=by
 induction n with
 | zero =>
  intro i j h ov done hi hj hd S hk
  obtain ⟨j,rfl⟩ : ∃ q,j = q + 1:=⟨j - 1,by omega⟩
  simp only [F192_lrlrrr]
  with_reducible repeat (first | (apply qzV; simp (disch:=omega) only [zA,bzIa.1] <;> rfl) | apply qzT | apply qzF | (apply qzB; simp (disch:=omega) only [zA,bzIa.1] <;> rfl))
  refine hk _ _ _ _ ?_
  rw [List.drop_eq_nil_of_le (by omega)]
  simpa using S
 | succ n ih =>
  intro i j h ov done hi hj hd S hk
  obtain ⟨j,rfl⟩ : ∃ q,j = q + 1:=⟨j - 1,by omega⟩
  obtain ⟨x,hx⟩ : ∃ x,l[i]? = some x:=⟨_,List.getElem?_eq_getElem (by omega)⟩
  obtain ⟨b,o,hp,hc1⟩:=Sl1.at_ A (t:=163) (k:=.i64) hx u163 sz2
  have hc1:=hc1 h S.grow
  have e : (i : Int) + 1 = ((i + 1 : Nat) : Int):=by omega
  simp only [F192_lrlrrr]
  with_reducible repeat (first | (apply qzV; simp (disch:=omega) only [zA,bzIa.1,hp,hc1,i6v,wrapU] <;> rfl) | apply qzT | apply qzF | (apply qzB; simp (disch:=omega) only [zA,bzIa.1,hp,hc1,i6v,wrapU] <;> rfl))
  refine Tl.bind (f125c (k:=k) (toU x) (by omega) S) ?_
  rintro ⟨ov2,h2⟩ S2
  simp only at S2
  with_reducible repeat (first | (apply qzV; simp (disch:=omega) only [zA,bzIa.1] <;> rfl) | apply qzT | apply qzF | (apply qzB; simp (disch:=omega) only [zA,bzIa.1] <;> rfl))
  rw [e]
  refine ih (by omega) (by omega) (by simp [le_len]; omega) S2 fun h3 ov3 y y' S3=>hk h3 ov3 y y' ?_
  rw [dropc hx]
  simpa using S3
theorem f192c {k : Nat} {h : AH} {v : Value} {l : List Int} (A : Ints h v l) (hl : l.length ≤ 4096) (hk : l.length < k) :
  Tl (eInv env (k + 30) (.func 192) #[] #[v] h) fun r=>∃ o,r.1 = .tuple #[o,.int .i64 0] ∧ Grow h r.2 ∧ OwnB prog h.n r.2 o 1 (u8rows (plainB l)):=by
 rw [F192_call]
 unfold F192
 have hv : ∀ h',pLen prog #[163] v h' = some (.int .i64 l.length):=fun h'=>Sl1.len A u163
 have h10:=pvarN_le10 (n:=l.length) (by omega)
 with_reducible repeat (first | (apply qzV; simp (disch:=omega) only [zA,bzIa.1,hv] <;> rfl) | apply qzT | apply qzF | (apply qzB; simp (disch:=omega) only [zA,bzIa.1,hv] <;> rfl))
 refine Tl.bind (f212c (k:=k + 8) (f:=1) (n:=l.length) (by omega) (Stt.init h)) ?_
 rintro ⟨ov,h1⟩ S1
 simp only at S1
 with_reducible repeat (first | (apply qzV; simp (disch:=omega) only [zA,bzIa.1,hv] <;> rfl) | apply qzT | apply qzF | (apply qzB; simp (disch:=omega) only [zA,bzIa.1,hv] <;> rfl))
 refine f192_loop (k:=k + 9) A (by omega) l.length (i:=0) (by omega) (by omega) (by unfold headB; simp; omega) S1 fun h' ov' y y' S'=>?_
 exact ⟨_,rfl,_,rfl,S'.grow,S'.ret 0 rfl⟩
/-! ### 'Runs' -/
def rli (b : Int) (n : Nat) : List Int→List (Nat × Int)
 | []=>[(n,b)]
 | c :: l=>if c = b then rli b (n + 1) l else (n,b) :: rli c 1 l
def runsI : List Int→List (Nat × Int)
 | []=>[]
 | b :: l=>rli b 1 l
def runB (r : Nat × Int) : List Nat:=pvarN r.1 ++ le (toU r.2) 0 8
def runsB (l : List Int) : List Nat:=headB 2 l.length ++ (runsI l).flatMap runB
theorem f194_loop {β : Type} {k : Nat} {Q : β→Prop} {h0 : AH} {v : Value} {l : List Int} (A : Ints h0 v l) (hl : l.length ≤ 5000) {ke0 : Value→Value→Value→Value→Value→Value→AH→Option β} (n : Nat) :
  ∀ {i j frm : Nat} {h : AH} {ov : Value} {rs : List (Nat × Int)} {hd : List Nat},i + n = l.length→n < j→frm ≤ i→hd.length ≤ 20→((rs.flatMap runB).length ≤ 18 * i)→(n = 0→rs = runsI l) →
   (∀ x,l[i]? = some x→l[frm]? = some x ∧ rs ++ rli x (i + 1 - frm) (l.drop (i + 1)) = runsI l) →
   Stt prog h0.n h0 h [] [(ov,1,u8rows (hd ++ rs.flatMap runB))] →
   (∀ h' ov' y y' y'',Stt prog h0.n h0 h' [] [(ov',1,u8rows (hd ++ (runsI l).flatMap runB))]→Tl (ke0 v ov' y (.int .i64 l.length) y' y'' h') Q) →
   Tl (F194_lrlrrrrlr (eInv env (k + 20)) (k + 20) j v ov (.int .i64 frm) (.int .i64 l.length) (.int .i64 i) h ke0) Q:=by
 induction n with
 | zero =>
  intro i j frm h ov rs hd hi hj hf hhd hrs h0' hx S hk
  obtain ⟨j,rfl⟩ : ∃ q,j = q + 1:=⟨j - 1,by omega⟩
  simp only [F194_lrlrrrrlr]
  with_reducible repeat (first | (apply qzV; simp (disch:=omega) only [zA,bzIa.1] <;> rfl) | apply qzT | apply qzF | apply qzH | ((first | apply qzB | apply qzD); simp (disch:=omega) only [zA,bzIa.1] <;> rfl))
  rw [h0' rfl] at S
  exact hk _ _ _ _ _ S
 | succ n ih =>
  intro i j frm h ov rs hd hi hj hf hhd hrs h0' hx S hk
  obtain ⟨j,rfl⟩ : ∃ q,j = q + 1:=⟨j - 1,by omega⟩
  obtain ⟨x,ex⟩ : ∃ x,l[i]? = some x:=⟨_,List.getElem?_eq_getElem (by omega)⟩
  obtain ⟨efx,hx1⟩:=hx x ex
  obtain ⟨b,o,hp,hc⟩:=Sl1.at_ A (t:=163) (k:=.i64) ex u163 sz2
  obtain ⟨bf,of,hpf,hcf⟩:=Sl1.at_ A (t:=163) (k:=.i64) efx u163 sz2
  have hlen : ∀ h',pLen prog #[163] v h' = some (.int .i64 l.length):=fun h'=>Sl1.len A u163
  have e : (i : Int) + 1 = ((i + 1 : Nat) : Int):=by omega
  have em : ((i + 1 : Nat) : Int) - (frm : Int) = ((i + 1 - frm : Nat) : Int):=by omega
  have h10:=pvarN_le10 (n:=i + 1 - frm) (by omega)
  -- what is put
  have step : ∀ (hnext : n = 0→rs ++ [(i + 1 - frm,x)] = runsI l) (hx' : ∀ y,l[i + 1]? = some y→(rs ++ [(i + 1 - frm,x)]) ++ rli y 1 (l.drop (i + 2)) = runsI l) (Kt : Value→AH→Option β)
    (hKt : ∀ ov' h',Kt ov' h' = F194_lrlrrrrlr (eInv env (k + 20)) (k + 20) j v ov' (.int .i64 ((i + 1 : Nat) : Int)) (.int .i64 l.length) (.int .i64 ((i + 1 : Nat) : Int)) h' ke0),
    Tl (Ev.bnd (eInv env (k + 20) (.func 86) #[] #[ov,.int .u64 ((i + 1 - frm : Nat) : Int)] h) fun x41 =>
     Ev.bnd (pIndexAddr prog 163 v (.int .i64 (i : Int))) fun x44 =>
     Ev.bnd (pLoad prog 2 x44 x41.2) fun x45 =>
     Ev.bnd (pConv prog 2 121 x45 x41.2) fun x46 =>
     Ev.bnd (eInv env (k + 20) (.func 125) #[] #[x41.1,x46,.int .i64 8] x41.2) fun x47 =>
     chkK ((!true || !true || (sameO (pLoad prog 2 x44 h) x45 && sameO (pLoad prog 2 x44 x41.2) x45)) && ((!true || !true || (sameO (pConv prog 2 121 x45 h) x46 && sameO (pConv prog 2 121 x45 x41.2) x46)) && true)) <|
     Kt x47.1 x47.2) Q:=by
   intro hnext hx' Kt hKt
   refine Tl.bind (f86c (k:=k) (i + 1 - frm) (by omega) (by simp only [List.length_append]; omega) S) ?_
   rintro ⟨ov2,h2⟩ S2
   simp only at S2
   have hc2:=hc h2 S2.grow
   have hc0:=hc h S.grow
   with_reducible repeat (first | (apply qzV; simp (disch:=omega) only [zA,bzIa.1,hp,hc2,i6v,wrapU] <;> rfl) | apply qzT | apply qzF | apply qzH | ((first | apply qzB | apply qzD); simp (disch:=omega) only [zA,bzIa.1,hp,hc2,i6v,wrapU] <;> rfl))
   refine Tl.bind (f125c (k:=k) (toU x) (by simp only [List.length_append]; omega) S2) ?_
   rintro ⟨ov3,h3⟩ S3
   simp only at S3
   with_reducible refine Tl.chk ?_ ?_
   ·simp only [ld2,hc0,hc2,i6v,wrapU,conv_int u2 u121,sameO_some,sameV_int,Bool.and_self,Bool.not_true,Bool.or_true,Bool.true_and,Bool.false_or]
   rw [hKt]
   have e2 : hd ++ rs.flatMap runB ++ pvarN (i + 1 - frm) ++ le (toU x) 0 8 = hd ++ (rs ++ [(i + 1 - frm,x)]).flatMap runB:=by simp [runB]
   rw [e2] at S3
   refine ih (rs:=rs ++ [(i + 1 - frm,x)]) (by omega) (by omega) (by omega) hhd ?_ hnext (fun y hy=>⟨hy,?_⟩) S3 hk
   ·simp only [List.flatMap_append,List.flatMap_cons,List.flatMap_nil,List.append_nil,List.length_append,runB,le_len]; omega
   ·rw [show i + 1 + 1 - (i + 1) = 1 by omega]; exact hx' y hy
  simp only [F194_lrlrrrrlr]
  unfold F194_lrrllrlrrrrlr
  have hc0:=hc h S.grow
  have hcf:=hcf h S.grow
  by_cases q : i + 1 < l.length
  ·obtain ⟨y,ey⟩ : ∃ x,l[i + 1]? = some x:=⟨_,List.getElem?_eq_getElem q⟩
   obtain ⟨b2,o2,hp2,hc2⟩:=Sl1.at_ A (t:=163) (k:=.i64) ey u163 sz2
   have hc2:=hc2 h S.grow
   rw [← e] at hp2
   rw [dropc ey] at hx1
   by_cases exy : y = x
   ·subst exy
    with_reducible repeat (first | (apply qzV; simp (disch:=omega) only [zA,bzIa.1,hlen,hp2,hc2,i6v,hpf,hcf] <;> rfl) | apply qzT | apply qzF | apply qzH | ((first | apply qzB | apply qzD); simp (disch:=omega) only [zA,bzIa.1,hlen,hp2,hc2,i6v,hpf,hcf] <;> rfl))
    rw [e]
    refine ih (rs:=rs) (by omega) (by omega) (by omega) hhd (by omega) (fun q=>by omega) (fun x' hx'=>?_) S hk
    rw [ey] at hx'
    cases hx'
    refine ⟨efx,?_⟩
    rw [← hx1,rli,if_pos rfl,show i + 1 + 1 - frm = i + 1 - frm + 1 by omega]
   ·with_reducible repeat (first | (apply qzV; simp (disch:=omega) only [zA,bzIa.1,hlen,hp2,hc2,i6v,hpf,hcf,wrapU] <;> rfl) | apply qzT | apply qzF | apply qzH | ((first | apply qzB | apply qzD); simp (disch:=omega) only [zA,bzIa.1,hlen,hp2,hc2,i6v,hpf,hcf,wrapU] <;> rfl))
    rw [rli,if_neg exy] at hx1
    have eu : (i : Int) + 1 - (frm : Int) = ((i + 1 - frm : Nat) : Int):=by omega
    rw [eu]
    refine step (fun q=>by omega) (fun y' hy'=>?_) (fun ov' h'=>Ev.bnd (pBin prog .add 3 (.tmp 48) (.const (.int .i64 1)) (.int .i64 (i : Int)) (.int .i64 1)) fun x49=>Ev.bnd (pBin prog .add 3 (.tmp 15) (.const (.int .i64 1)) (.int .i64 (i : Int)) (.int .i64 1)) fun x50=>F194_lrlrrrrlr (eInv env (k + 20)) (k + 20) j v ov' x49 (.int .i64 l.length) x50 h' ke0) (fun ov' h'=>?_)
    ·rw [ey] at hy'
     cases hy'
     simpa using hx1
    ·simp only [bin_add,bnd_some,e,wr_i64 (show -9223372036854775808 ≤ ((i + 1 : Nat) : Int) ∧ ((i + 1 : Nat) : Int) ≤ 9223372036854775807 by omega)]
  ·with_reducible repeat (first | (apply qzV; simp (disch:=omega) only [zA,bzIa.1,hlen,hp,hc0,i6v,hpf,hcf,wrapU] <;> rfl) | apply qzT | apply qzF | apply qzH | ((first | apply qzB | apply qzD); simp (disch:=omega) only [zA,bzIa.1,hlen,hp,hc0,i6v,hpf,hcf,wrapU] <;> rfl))
   have eu : (i : Int) + 1 - (frm : Int) = ((i + 1 - frm : Nat) : Int):=by omega
   rw [eu]
   rw [List.drop_eq_nil_of_le (by omega),rli] at hx1
   refine step (fun q=>hx1) (fun y' hy'=>?_) (fun ov' h'=>Ev.bnd (pBin prog .add 3 (.tmp 48) (.const (.int .i64 1)) (.int .i64 (i : Int)) (.int .i64 1)) fun x49=>Ev.bnd (pBin prog .add 3 (.tmp 15) (.const (.int .i64 1)) (.int .i64 (i : Int)) (.int .i64 1)) fun x50=>F194_lrlrrrrlr (eInv env (k + 20)) (k + 20) j v ov' x49 (.int .i64 l.length) x50 h' ke0) (fun ov' h'=>?_)
   ·rw [List.getElem?_eq_none (by omega)] at hy'
    cases hy'
   ·simp only [bin_add,bnd_some,e,wr_i64 (show -9223372036854775808 ≤ ((i + 1 : Nat) : Int) ∧ ((i + 1 : Nat) : Int) ≤ 9223372036854775807 by omega)]
theorem f194c {k : Nat} {h : AH} {v : Value} {l : List Int} (A : Ints h v l) (hl : l.length ≤ 4096) (hk : l.length < k) :
  Tl (eInv env (k + 30) (.func 194) #[] #[v] h) fun r=>∃ o,r.1 = .tuple #[o,.int .i64 0] ∧ Grow h r.2 ∧ OwnB prog h.n r.2 o 1 (u8rows (runsB l)):=by
 rw [F194_call]
 unfold F194
 have hv : ∀ h',pLen prog #[163] v h' = some (.int .i64 l.length):=fun h'=>Sl1.len A u163
 have h10:=pvarN_le10 (n:=l.length) (by omega)
 with_reducible repeat (first | (apply qzV; simp (disch:=omega) only [zA,bzIa.1,hv] <;> rfl) | apply qzT | apply qzF | apply qzH | ((first | apply qzB | apply qzD); simp (disch:=omega) only [zA,bzIa.1,hv] <;> rfl))
 refine Tl.bind (f212c (k:=k + 8) (f:=2) (n:=l.length) (by omega) (Stt.init h)) ?_
 rintro ⟨ov,h1⟩ S1
 simp only at S1
 with_reducible repeat (first | (apply qzV; simp (disch:=omega) only [zA,bzIa.1,hv] <;> rfl) | apply qzT | apply qzF | apply qzH | ((first | apply qzB | apply qzD); simp (disch:=omega) only [zA,bzIa.1,hv] <;> rfl))
 refine f194_loop (k:=k + 9) A (by omega) l.length (i:=0) (frm:=0) (rs:=[]) (hd:=headB 2 l.length) (by omega) (by omega) (by omega) (by unfold headB; simp; omega) (by simp) (fun q=>?_) (fun x hx=>⟨hx,?_⟩) (by simpa using S1) fun h' ov' y y' y'' S'=>?_
 ·have : l = []:=List.length_eq_zero_iff.1 q
  subst this
  rfl
 ·cases l with
  | nil=>simp at hx
  | cons a l=>simp at hx; subst hx; simp [runsI]
 ·exact ⟨_,rfl,_,rfl,S'.grow,S'.ret 0 rfl⟩
/-! ### 'Packed' -/
def minI : List Int→Int
 | []=>0
 | a :: l=>l.foldl (fun m x=>if x < m then x else m) a
theorem f214_loop {β : Type} {k : Nat} {Q : β→Prop} {h : AH} {v : Value} {l : List Int} (A : Ints h v l) (hl : l.length ≤ 5000) {ke0 : Value→Value→Value→Value→AH→Option β} (n : Nat) :
  ∀ {i j : Nat} {m : Int},i + n = l.length→n < j→(∀ y y',Tl (ke0 v (.int .i64 ((l.drop i).foldl (fun m x=>if x < m then x else m) m)) y y' h) Q) →
   Tl (F214_lrlrrr (eInv env k) k j v (.int .i64 m) (.int .i64 i) h ke0) Q:=by
 have hv : ∀ h',pLen prog #[163] v h' = some (.int .i64 l.length):=fun h'=>Sl1.len A u163
 induction n with
 | zero =>
  intro i j m hi hj hk
  obtain ⟨j,rfl⟩ : ∃ q,j = q + 1:=⟨j - 1,by omega⟩
  simp only [F214_lrlrrr]
  with_reducible repeat (first | (apply qzV; simp (disch:=omega) only [zA,bzIa.1,hv] <;> rfl) | apply qzT | apply qzF | (apply qzB; simp (disch:=omega) only [zA,bzIa.1,hv] <;> rfl))
  rw [List.drop_eq_nil_of_le (by omega)] at hk
  exact hk _ _
 | succ n ih =>
  intro i j m hi hj hk
  obtain ⟨j,rfl⟩ : ∃ q,j = q + 1:=⟨j - 1,by omega⟩
  obtain ⟨x,hx⟩ : ∃ x,l[i]? = some x:=⟨_,List.getElem?_eq_getElem (by omega)⟩
  obtain ⟨b,o,hp,hc1⟩:=Sl1.at_ A (t:=163) (k:=.i64) hx u163 sz2
  have hc1:=hc1 h (Grow.refl _)
  have e : (i : Int) + 1 = ((i + 1 : Nat) : Int):=by omega
  have mm : pMinMax prog false #[.int .i64 m,.int .i64 x] = some (.int .i64 (if x < m then x else m)):=by
   by_cases h : x < m
   ·have h2 : ¬ m ≤ x:=by omega
    simp [pMinMax,Builtin.min_,Builtin.min2,h,chk,plain,plain0] <;> rfl
   ·simp [pMinMax,Builtin.min_,Builtin.min2,h,chk,plain,plain0] <;> rfl
  rw [dropc hx] at hk
  simp only [F214_lrlrrr]
  with_reducible repeat (first | (apply qzV; simp (disch:=omega) only [zA,bzIa.1,hv,hp,hc1,i6v,mm] <;> rfl) | apply qzT | apply qzF | (apply qzB; simp (disch:=omega) only [zA,bzIa.1,hv,hp,hc1,i6v,mm] <;> rfl))
  rw [e]
  exact ih (by omega) (by omega) hk
theorem f214c {k : Nat} {h : AH} {v : Value} {l : List Int} (A : Ints h v l) (hne : l ≠ []) (hl : l.length ≤ 5000) (hk : l.length < k) : eInv env (k + 1) (.func 214) #[] #[v] h = some (.int .i64 (minI l),h):=by
 have hpos:=List.length_pos_iff.2 hne
 have T : Tl (F214 (eInv env k) k v h) fun r=>r = (.int .i64 (minI l),h):=by
  unfold F214
  have hv : ∀ h',pLen prog #[163] v h' = some (.int .i64 l.length):=fun h'=>Sl1.len A u163
  obtain ⟨x,hx⟩ : ∃ x,l[0]? = some x:=⟨_,List.getElem?_eq_getElem hpos⟩
  obtain ⟨b,o,hp,hc1⟩:=Sl1.at_ A (t:=163) (k:=.i64) hx u163 sz2
  have hc1:=hc1 h (Grow.refl _)
  have hp : pIndexAddr prog 163 v (.int .i64 0) = _:=hp
  unfold F214_rlr
  with_reducible repeat (first | (apply qzV; simp (disch:=omega) only [zA,bzIa.1,hv,hp,hc1,i6v] <;> rfl) | apply qzT | apply qzF | (apply qzB; simp (disch:=omega) only [zA,bzIa.1,hv,hp,hc1,i6v] <;> rfl))
  refine f214_loop A hl (l.length - 1) (i:=1) (by omega) (by omega) fun y y'=>⟨_,rfl,?_⟩
  cases l with
  | nil=>simp at hpos
  | cons a l=>simp at hx; subst hx; rfl
 obtain ⟨r,h1,h2⟩:=T
 rw [F214_call,h1,h2]
/-- What numbers have more than the least one. -/
def moreI (l : List Int) : List Nat:=l.map fun z=>toU (z - minI l)
def widI (l : List Int) : Nat:=Pk.widthN (moreI l)
def packB (l : List Int) : List Nat:=headB 3 l.length ++ le (toU (minI l)) 0 8 ++ (widI l :: putN (widI l) (moreI l))
theorem moreI_lt (l : List Int) : ∀ x ∈ moreI l,x < 18446744073709551616:=fun x hx=>by
 obtain ⟨z,_,rfl⟩:=List.mem_map.1 hx
 exact toU_lt _
theorem toU_sub (a b : Int) : IntKind.u64.wrap ((toU a : Int) - (toU b : Int)) = (toU (a - b) : Int):=by
 rw [wrap_u64]; unfold toU; omega
theorem f196_loop {β : Type} {k : Nat} {Q : β→Prop} {h0 : AH} {v : Value} {l : List Int} {m : Int} (A : Ints h0 v l) (hl : l.length ≤ 5000) {ke0 : Value→Value→Value→Value→Value→Value→Value→AH→Option β} (n : Nat) :
  ∀ {i j : Nat} {h : AH} {ov : Value} {done : List Nat},i + n = l.length→n < j→done.length = i→Stt prog h0.n h0 h [] [(ov,1,u64rows done)] →
   (∀ h' ov' y y',Stt prog h0.n h0 h' [] [(ov',1,u64rows (done ++ (l.drop i).map fun z=>toU (z - m)))]→Tl (ke0 v (.int .i64 m) ov' v (.int .i64 l.length) y y' h') Q) →
   Tl (F196_lrlrrrrr (eInv env k) k j v (.int .i64 m) ov v (.int .i64 l.length) (.int .i64 i) h ke0) Q:=by
 induction n with
 | zero =>
  intro i j h ov done hi hj hd S hk
  obtain ⟨j,rfl⟩ : ∃ q,j = q + 1:=⟨j - 1,by omega⟩
  simp only [F196_lrlrrrrr]
  with_reducible repeat (first | (apply qzV; simp (disch:=omega) only [zA,bzIa.1] <;> rfl) | apply qzT | apply qzF | (apply qzB; simp (disch:=omega) only [zA,bzIa.1] <;> rfl))
  refine hk _ _ _ _ ?_
  rw [List.drop_eq_nil_of_le (by omega)]
  simpa using S
 | succ n ih =>
  intro i j h ov done hi hj hd S hk
  obtain ⟨j,rfl⟩ : ∃ q,j = q + 1:=⟨j - 1,by omega⟩
  obtain ⟨x,hx⟩ : ∃ x,l[i]? = some x:=⟨_,List.getElem?_eq_getElem (by omega)⟩
  obtain ⟨b,o,hp,hc1⟩:=Sl1.at_ A (t:=163) (k:=.i64) hx u163 sz2
  have hc1:=hc1 h S.grow
  have e : (i : Int) + 1 = ((i + 1 : Nat) : Int):=by omega
  have cx : pConv prog 2 121 (.int .i64 x) h = some (.int .u64 (toU x : Int)):=by rw [conv_int u2 u121,wrapU]
  have cm : pConv prog 2 121 (.int .i64 m) h = some (.int .u64 (toU m : Int)):=by rw [conv_int u2 u121,wrapU]
  have sb : ∀ t a b,pBin prog Go.BinOp.sub t a b (.int .u64 (toU x : Int)) (.int .u64 (toU m : Int)) = some (.int .u64 (toU (x - m) : Int)):=fun t a b=>by rw [bin_sub,toU_sub]
  simp only [F196_lrlrrrrr]
  with_reducible apply Tl.val
  ·focus (simp (disch:=omega) only [zA,bzIa] <;> with_reducible rfl)
  with_reducible refine Tl.brT ?_
  with_reducible apply Tl.val
  ·exact hp
  with_reducible apply Tl.val
  ·rw [ld2]; exact hc1
  refine Tl.val cx ?_
  refine Tl.val cm ?_
  refine Tl.val (sb _ _ _) ?_
  refine Tl.push S 0 rfl app124 (bs124 _ _) rfl rfl (by rw [u64rows_len]; omega) fun ov2 h2 S2=>?_
  with_reducible repeat (first | (apply qzV; simp (disch:=omega) only [zA,bzIa.1] <;> rfl) | apply qzT | apply qzF | (apply qzB; simp (disch:=omega) only [zA,bzIa.1] <;> rfl))
  rw [e]
  refine ih (done:=done ++ [toU (x - m)]) (by omega) (by omega) (by simp [hd]) (by simpa [u64rows,u64v] using S2) fun h3 ov3 y y' S3=>hk h3 ov3 y y' ?_
  rw [dropc hx]
  simpa using S3
theorem widI_le (l : List Int) : widI l ≤ 64:=Pk.width64 (moreI_lt l)
theorem putN_len {w n : Nat} {l : List Nat} (hl : l.length = n) (hw : w ≤ 64) (hn : n ≤ 5000) : (putN w l).length ≤ 40100:=by
 have:=(putN_spec w l).2.1
 have h2 : l.length * w ≤ 5000 * 64:=Nat.mul_le_mul (by omega) hw
 omega
end Go.Proofs.YtlbmlncdjkdoaaaGreat.Sh
/- What the functions of the ints' package come to: 'Packed', 'Put'. -/
set_option linter.unusedVariables false
set_option linter.unusedSimpArgs false
set_option maxRecDepth 100000
namespace Go.Proofs.YtlbmlncdjkdoaaaGreat.Sh
open Go Go.RowKit Go.Proofs.Ev
open Tryz (prog)
def bzIb:=PLift.up (ai @ld3 (ai @ld2 (ai @ld4 (ai @ld5 (ai @ld121 (ai @ld93 (ai @ld163 (ai @ld124 (ai @ld195 (ai @ld200 (ai @fa200_0 (ai @fa200_1 (ai @fa200_2 (ai (fun a h=>conv_int (a:=a) (h:=h) u3 u121) (ai (fun a h=>conv_int (a:=a) (h:=h) u2 u121) (ai (fun a h=>conv_int (a:=a) (h:=h) u121 u5) (ai (fun a h=>conv_int (a:=a) (h:=h) u121 u2) (ai (fun a h=>conv_int (a:=a) (h:=h) u3 u5) (ai @ex2_0 (@ex2_1))))))))))))))))))))
theorem f196c {k : Nat} {h : AH} {v : Value} {l : List Int} (A : Ints h v l) (hl : l.length ≤ 4096) (hk : l.length < k) :
  Tl (eInv env (k + 500) (.func 196) #[] #[v] h) fun r=>∃ o,r.1 = .tuple #[o,.int .i64 0] ∧ Grow h r.2 ∧ OwnB prog h.n r.2 o 1 (u8rows (packB l)):=by
 rw [F196_call]
 unfold F196
 have hv : ∀ h',pLen prog #[163] v h' = some (.int .i64 l.length):=fun h'=>Sl1.len A u163
 have h10:=pvarN_le10 (n:=l.length) (by omega)
 have hw:=widI_le l
 -- behind the least one
 have go : Tl (F196_lrlrrrrr (eInv env (k + 499)) (k + 499) (k + 499) v (.int .i64 (minI l)) (.slice none 0 0) v (.int .i64 l.length) (.int .i64 0) h
   (fun y0_1 y4_2 y5 y20 y21 y22 y23 h_3 =>
  Ev.bnd (eInv env (k + 499) (.func 119) #[] #[y5] h_3) fun x36 =>
  Ev.bnd (eInv env (k + 499) (.func 88) #[] #[y5,x36.1] x36.2) fun x40 =>
  Ev.bnd (pExtract x40.1 0) fun x41 =>
  Ev.bnd (pExtract x40.1 1) fun x42 =>
  Ev.bnd (pBin prog .neq 28 (.tmp 43) (.const (.int .i64 0)) x42 (.int .i64 0)) fun x44 =>
  brV x44
  (some (Value.tuple #[(Value.slice none 0 0),x42],x40.2))
  (Ev.bnd (pLen prog #[163] y0_1 x40.2) fun x47 =>
  Ev.bnd (eInv env (k + 499) (.func 212) #[] #[(.int .u8 3),x47] x40.2) fun x48 =>
  Ev.bnd (pConv prog 2 121 y4_2 x48.2) fun x50 =>
  Ev.bnd (eInv env (k + 499) (.func 125) #[] #[x48.1,x50,(.int .i64 8)] x48.2) fun x51 =>
  Ev.bnd (pConv prog 3 5 x36.1 x51.2) fun x54 =>
  Ev.bnd (pBuildSlice prog 93 1 #[(0,x54)] x51.2) fun x55 =>
  Ev.bnd (pAppend prog #[93,93] x51.1 x55.1 x55.2) fun x56 =>
  Ev.bnd (pAppend prog #[93,93] x56.1 x41 x56.2) fun x58 =>
  some (Value.tuple #[x58.1,(.int .i64 0)],x58.2)))) fun r=>∃ o,r.1 = .tuple #[o,.int .i64 0] ∧ Grow h r.2 ∧ OwnB prog h.n r.2 o 1 (u8rows (packB l)):=by
  refine f196_loop A (by omega) l.length (i:=0) (done:=[]) (by omega) (by omega) rfl ((Stt.init h).nil 1) fun h1 ov y y' S1=>?_
  simp only [List.drop_zero,List.nil_append] at S1
  have S1 : Stt prog h.n h h1 [] [(ov,1,u64rows (moreI l))]:=S1
  have ml : (moreI l).length = l.length:=by simp [moreI]
  have W : Words h1 ov (moreI l):=S1.sl1 0 rfl
  have wid:=Pk.f15c (k:=k + 497) W.pk (by omega) (moreI_lt l) (by omega)
  have wid : eInv env (k + 499) (.func 119) #[] #[ov] h1 = some (.int .i64 (widI l),h1):=wid
  with_reducible repeat (first | (apply qzV; simp (disch:=omega) only [zA,bzIb.1,wid] <;> rfl) | apply qzT | apply qzF | (apply qzB; simp (disch:=omega) only [zA,bzIb.1,wid] <;> rfl))
  refine Tl.bind (f88c (k:=k + 198) W (by omega) (by omega) (moreI_lt l) (widI l : Int)) ?_
  rintro ⟨r,h2⟩ ⟨pv,er,g2,X⟩
  simp only at er g2 X
  subst er
  have pe : Pk.putE (moreI l) (widI l : Int) = 0:=Pk.putE_of (W:=widI l) (by omega) hw (Nat.le_refl _)
  have pl : Pk.putL (moreI l) (widI l : Int) = putN (widI l) (moreI l):=by unfold Pk.putL; rw [if_pos pe]; rfl
  rw [pl] at X
  have S2:=S1.gain g2 X
  with_reducible repeat (first | (apply qzV; simp (disch:=omega) only [zA,bzIb.1,pe,hv] <;> rfl) | apply qzT | apply qzF | (apply qzB; simp (disch:=omega) only [zA,bzIb.1,pe,hv] <;> rfl))
  refine Tl.bind (f212c (k:=k + 478) (f:=3) (n:=l.length) (by omega) S2) ?_
  rintro ⟨hv2,h3⟩ S3
  simp only at S3
  with_reducible repeat (first | (apply qzV; simp (disch:=omega) only [zA,bzIb.1,wrapU] <;> rfl) | apply qzT | apply qzF | (apply qzB; simp (disch:=omega) only [zA,bzIb.1,wrapU] <;> rfl))
  refine Tl.bind (f125c (k:=k + 479) (toU (minI l)) (by unfold headB; simp; omega) S3) ?_
  rintro ⟨hv3,h4⟩ S4
  simp only at S4
  with_reducible repeat (first | (apply qzV; simp (disch:=omega) only [zA,bzIb.1] <;> rfl) | apply qzT | apply qzF | (apply qzB; simp (disch:=omega) only [zA,bzIb.1] <;> rfl))
  refine Tl.push S4 0 rfl app93 (bs93 _ _) rfl rfl (by rw [u8rows_len]; unfold headB; simp [le_len]; omega) fun hv4 h5 S5=>?_
  have S5 : Stt prog h.n h h5 [] [(hv4,1,u8rows (headB 3 l.length ++ le (toU (minI l)) 0 8) ++ [[.int .u8 (widI l : Int)]]),(pv,1,u8rows (putN (widI l) (moreI l))),(ov,1,u64rows (moreI l))]:=S5
  have hpl:=putN_len (w:=widI l) ml hw (by omega)
  refine Tl.append' S5 0 rfl app93 (S5.slV 1 rfl) (one_u8rows _) (by rw [List.length_append,u8rows_len,u8rows_len]; unfold headB; simp [le_len]; omega) fun hv5 h6 S6=>?_
  with_reducible repeat (first | (apply qzV; simp (disch:=omega) only [zA,bzIb.1] <;> rfl) | apply qzT | apply qzF | (apply qzB; simp (disch:=omega) only [zA,bzIb.1] <;> rfl))
  refine ⟨_,rfl,hv5,rfl,S6.grow,?_⟩
  have R:=S6.ret 0 rfl
  have e3 : u8rows (headB 3 l.length ++ le (toU (minI l)) 0 8) ++ [[.int .u8 (widI l : Int)]] ++ u8rows (putN (widI l) (moreI l)) = u8rows (packB l):=by
   unfold packB
   simp [u8rows,u8v]
  rw [e3] at R
  exact R
 by_cases q : l = []
 ·subst q
  unfold F196_rlrrr
  with_reducible repeat (first | (apply qzV; simp (disch:=omega) only [zA,bzIb.1,hv,List.length_nil,Int.ofNat_zero] <;> rfl) | apply qzT | apply qzF | (apply qzB; simp (disch:=omega) only [zA,bzIb.1,hv,List.length_nil,Int.ofNat_zero] <;> rfl))
  exact go
 ·have hpos:=List.length_pos_iff.2 q
  have mn:=f214c (k:=k + 498) A q (by omega) (by omega)
  unfold F196_rlrrr
  with_reducible repeat (first | (apply qzV; simp (disch:=omega) only [zA,bzIb.1,hv,mn] <;> rfl) | apply qzT | apply qzF | (apply qzB; simp (disch:=omega) only [zA,bzIb.1,hv,mn] <;> rfl))
  exact go
/-! ### 'Put': the shortest -/
def shorter (m x : Value × List Nat) : Value × List Nat:=if x.2.length < m.2.length then x else m
def cmpN (a b : Int) : Int:=if a < b then -1 else if a > b then 1 else 0
theorem f172c {k : Nat} (a b : Int) (h : AH) : eInv env (k + 2) (.func 172) #[] #[.int .i64 a,.int .i64 b] h = some (.int .i64 (cmpN a b),h):=by
 have nan : ∀ z : Int,eInv env (k + 1) (.func 198) #[] #[.int .i64 z] h = some (.bool false,h):=fun z=>by
  rw [F198_call]
  unfold F198
  simp only [bin_neq,bnd_some,bne_self_eq_false]
 have T : Tl (F172 (eInv env (k + 1)) (k + 1) (.int .i64 a) (.int .i64 b) h) fun r=>r = (.int .i64 (cmpN a b),h):=by
  unfold F172 cmpN
  have na:=nan a
  have nb:=nan b
  by_cases h1 : a < b
  ·rw [if_pos h1]
   with_reducible repeat (first | (apply qzV; simp (disch:=omega) only [zA,bzIb.1,na,nb] <;> rfl) | apply qzT | apply qzF | (apply qzB; simp (disch:=omega) only [zA,bzIb.1,na,nb] <;> rfl))
   exact ⟨_,rfl,rfl⟩
  ·rw [if_neg h1]
   by_cases h2 : a > b
   ·rw [if_pos h2]
    with_reducible repeat (first | (apply qzV; simp (disch:=omega) only [zA,bzIb.1,na,nb] <;> rfl) | apply qzT | apply qzF | (apply qzB; simp (disch:=omega) only [zA,bzIb.1,na,nb] <;> rfl))
    exact ⟨_,rfl,rfl⟩
   ·rw [if_neg h2]
    with_reducible repeat (first | (apply qzV; simp (disch:=omega) only [zA,bzIb.1,na,nb] <;> rfl) | apply qzT | apply qzF | (apply qzB; simp (disch:=omega) only [zA,bzIb.1,na,nb] <;> rfl))
    exact ⟨_,rfl,rfl⟩
 obtain ⟨r,h1,h2⟩:=T
 rw [F172_call,h1,h2]
theorem f171c {k : Nat} {h : AH} {v w : Value} {l m : List Nat} (A : Bytes h v l) (B : Bytes h w m) : callV (eInv env (k + 3)) (.func (.func 171) #[] #[]) #[v,w] h = some (.int .i64 (cmpN l.length m.length),h):=by
 have e : callV (eInv env (k + 3)) (.func (.func 171) #[] #[]) #[v,w] h = eInv env (k + 3) (.func 171) #[] (#[] ++ #[v,w]) h:=rfl
 rw [e,show ((#[] : Array Value) ++ #[v,w]) = #[v,w] by simp,F171_call]
 unfold F171
 simp only [A.len,B.len,bnd_some,f172c]
theorem f170_loop {β : Type} {k : Nat} {Q : β→Prop} {h : AH} {v : Value} {vs : List (Value × List Nat)} (A : Sl1 prog h v (fun x : Value × List Nat=>x.1) vs) (hB : ∀ x ∈ vs,Bytes h x.1 x.2) (hl : vs.length ≤ 100)
  {ke0 : Value→Value→Value→Value→Value→AH→Option β} (n : Nat) :
  ∀ {i j : Nat} {m : Value × List Nat},i + n = vs.length→n < j→Bytes h m.1 m.2→(∀ y y',Tl (ke0 v (.func (.func 171) #[] #[]) ((vs.drop i).foldl shorter m).1 y y' h) Q) →
   Tl (F170_lrlrrr (eInv env (k + 3)) (k + 3) j v (.func (.func 171) #[] #[]) m.1 (.int .i64 i) h ke0) Q:=by
 have hv : ∀ h',pLen prog #[195] v h' = some (.int .i64 vs.length):=fun h'=>Sl1.len A u195
 induction n with
 | zero =>
  intro i j m hi hj hm hk
  obtain ⟨j,rfl⟩ : ∃ q,j = q + 1:=⟨j - 1,by omega⟩
  simp only [F170_lrlrrr]
  with_reducible repeat (first | (apply qzV; simp (disch:=omega) only [zA,bzIb.1,hv] <;> rfl) | apply qzT | apply qzF | (apply qzB; simp (disch:=omega) only [zA,bzIb.1,hv] <;> rfl))
  rw [List.drop_eq_nil_of_le (by omega)] at hk
  exact hk _ _
 | succ n ih =>
  intro i j m hi hj hm hk
  obtain ⟨j,rfl⟩ : ∃ q,j = q + 1:=⟨j - 1,by omega⟩
  obtain ⟨x,hx⟩ : ∃ x,vs[i]? = some x:=⟨_,List.getElem?_eq_getElem (by omega)⟩
  obtain ⟨b,o,hp,hc1⟩:=Sl1.at_ A (t:=195) (k:=.i64) hx u195 sz93
  have hc1:=hc1 h (Grow.refl _)
  have Bx:=hB x (List.mem_of_getElem? hx)
  have cm:=f171c (k:=k) Bx hm
  have e : (i : Int) + 1 = ((i + 1 : Nat) : Int):=by omega
  rw [dropc hx,List.foldl_cons] at hk
  simp only [F170_lrlrrr]
  unfold F170_lrllrlrrr
  by_cases q : x.2.length < m.2.length
  ·have ec : cmpN x.2.length m.2.length = -1:=by unfold cmpN; rw [if_pos (by omega)]
   have es : shorter m x = x:=by unfold shorter; rw [if_pos q]
   rw [es] at hk
   rw [ec] at cm
   with_reducible repeat (first | (apply qzV; simp (disch:=omega) only [zA,bzIb.1,hv,hp,hc1,cm] <;> rfl) | apply qzT | apply qzF | (apply qzB; simp (disch:=omega) only [zA,bzIb.1,hv,hp,hc1,cm] <;> rfl))
   rw [e]
   exact ih (by omega) (by omega) Bx hk
  ·have ec : ¬ cmpN x.2.length m.2.length < 0:=by unfold cmpN; split <;> (try split) <;> omega
   have es : shorter m x = m:=by unfold shorter; rw [if_neg q]
   rw [es] at hk
   with_reducible repeat (first | (apply qzV; simp (disch:=omega) only [zA,bzIb.1,hv,hp,hc1,cm] <;> rfl) | apply qzT | apply qzF | (apply qzB; simp (disch:=omega) only [zA,bzIb.1,hv,hp,hc1,cm] <;> rfl))
   rw [e]
   exact ih (by omega) (by omega) hm hk
theorem f170c {k : Nat} {h : AH} {v : Value} {a : Value × List Nat} {vs : List (Value × List Nat)} (A : Sl1 prog h v (fun x : Value × List Nat=>x.1) (a :: vs)) (hB : ∀ x ∈ a :: vs,Bytes h x.1 x.2) (hl : vs.length ≤ 90) (hk : vs.length < k) :
  eInv env (k + 4) (.func 170) #[] #[v,.func (.func 171) #[] #[]] h = some ((vs.foldl shorter a).1,h):=by
 have T : Tl (F170 (eInv env (k + 3)) (k + 3) v (.func (.func 171) #[] #[]) h) fun r=>r = ((vs.foldl shorter a).1,h):=by
  unfold F170
  have hv : ∀ h',pLen prog #[195] v h' = some (.int .i64 ((vs.length + 1 : Nat) : Int)):=fun h'=>Sl1.len A u195
  obtain ⟨b,o,hp,hc1⟩:=Sl1.at_ A (t:=195) (k:=.i64) (i:=0) (x:=a) rfl u195 sz93
  have hc1:=hc1 h (Grow.refl _)
  have hp : pIndexAddr prog 195 v (.int .i64 0) = _:=hp
  unfold F170_rlr
  with_reducible repeat (first | (apply qzV; simp (disch:=omega) only [zA,bzIb.1,hv,hp,hc1] <;> rfl) | apply qzT | apply qzF | (apply qzB; simp (disch:=omega) only [zA,bzIb.1,hv,hp,hc1] <;> rfl))
  exact f170_loop A hB (by simp; omega) vs.length (i:=1) (m:=a) (by simp; omega) (by omega) (hB a (by simp)) fun y y'=>⟨_,rfl,by simp⟩
 obtain ⟨r,h1,h2⟩:=T
 rw [F170_call,h1,h2]
end Go.Proofs.YtlbmlncdjkdoaaaGreat.Sh
/- What 'Put' of the ints' package comes to. -/
set_option linter.unusedVariables false
set_option linter.unusedSimpArgs false
set_option maxRecDepth 100000
namespace Go.Proofs.YtlbmlncdjkdoaaaGreat.Sh
open Go Go.RowKit Go.Proofs.Ev
open Tryz (prog)
def bzIc:=PLift.up (ai @ld3 (ai @ld2 (ai @ld4 (ai @ld5 (ai @ld121 (ai @ld93 (ai @ld163 (ai @ld124 (ai @ld195 (ai @ld200 (ai @ld129 (ai @fa200_0 (ai @fa200_1 (ai @fa200_2 (ai (fun a h=>conv_int (a:=a) (h:=h) u3 u121) (ai (fun a h=>conv_int (a:=a) (h:=h) u2 u121) (ai (fun a h=>conv_int (a:=a) (h:=h) u121 u5) (ai (fun a h=>conv_int (a:=a) (h:=h) u121 u2) (ai (fun a h=>conv_int (a:=a) (h:=h) u3 u5) (ai @ex2_0 (@ex2_1)))))))))))))))))))))
def fnV (f : Nat) : Value:=.func (.func f) #[] #[]
def formR (k f g : Nat) : List Value:=[.int .u8 (k : Int),fnV f,fnV g]
def formsC : List Value:=formR 1 192 193 ++ formR 2 194 195 ++ formR 3 196 197
def Fb (b : Nat) : Nat × AO:=(b,.cells formsC 200 true)
theorem bd1 : pBuild prog 200 #[(0,(.int .u8 1)),(1,(.func (.func 192) #[] #[])),(2,(.func (.func 193) #[] #[]))] = some (.agg (formR 1 192 193).toArray):=by kernel_rfl
theorem bd2 : pBuild prog 200 #[(0,(.int .u8 2)),(1,(.func (.func 194) #[] #[])),(2,(.func (.func 195) #[] #[]))] = some (.agg (formR 2 194 195).toArray):=by kernel_rfl
theorem bd3 : pBuild prog 200 #[(0,(.int .u8 3)),(1,(.func (.func 196) #[] #[])),(2,(.func (.func 197) #[] #[]))] = some (.agg (formR 3 196 197).toArray):=by kernel_rfl
theorem bsF (h : AH) : pBuildSlice prog 196 3 #[(0,.agg (formR 1 192 193).toArray),(1,.agg (formR 2 194 195).toArray),(2,.agg (formR 3 196 197).toArray)] h = some (.slice (some ⟨h.n,0,none⟩) 3 3,h.alloc (.cells formsC 200 true)):=by kernel_rfl
section
variable {n0 : Nat} {h0 h : AH} {L : List (Nat × AO)} {O : List OS}
theorem f169c {k : Nat} (S : Stt prog n0 h0 h L O) : Tl (eInv env (k + 1) (.func 169) #[] #[] h) fun r=>∃ b,r.1 = .slice (some ⟨b,0,none⟩) 3 3 ∧ Stt prog n0 h0 r.2 (Fb b :: L) O:=by
 rw [F169_call]
 unfold F169
 with_reducible repeat (first | (apply qzV; simp (disch:=omega) only [zA,bzIc.1,bd1,bd2,bd3,bsF] <;> rfl) | apply qzT | apply qzF | (apply qzB; simp (disch:=omega) only [zA,bzIc.1,bd1,bd2,bd3,bsF] <;> rfl))
 exact ⟨_,rfl,_,rfl,S.alloc _⟩
theorem f128_step {β : Type} {k : Nat} {Q : β→Prop} {v : Value} {l : List Int} {fb kd F g : Nat} {B : List Nat} {av : Value} {brs : List (List Value)} {i m j : Nat} (A : Ints h0 v l) (hi : i < 3) (hF : (formsC.drop (i * 3)).take 3 = formR kd F g) (hm : O[m]? = some (av,1,brs)) (hbr : brs.length ≤ 10)
  (S : Stt prog h0.n h0 h (Fb fb :: L) O)
  (C : ∀ h',Ints h' v l→Tl (eInv env k (.func F) #[] #[v] h') fun r=>∃ o,r.1 = .tuple #[o,.int .i64 0] ∧ Grow h' r.2 ∧ OwnB prog h'.n r.2 o 1 (u8rows B))
  {ke0 : Value→Value→Value→Value→Value→Value→AH→Option β} {kr : Value→Value→AH→Option β}
  (hk : ∀ h' o av',Stt prog h0.n h0 h' (Fb fb :: L) ((o,1,u8rows B) :: O.set m (av',1,brs ++ [[o]]))→Tl (F128_lrlrr (eInv env k) k j v av' (.slice (some ⟨fb,0,none⟩) 3 3) (.int .i64 3) (.int .i64 ((i + 1 : Nat) : Int)) h' ke0 kr) Q) :
  Tl (F128_lrlrr (eInv env k) k (j + 1) v av (.slice (some ⟨fb,0,none⟩) 3 3) (.int .i64 3) (.int .i64 (i : Int)) h ke0 kr) Q:=by
 have hp : pIndexAddr prog 196 (.slice (some ⟨fb,0,none⟩) 3 3) (.int .i64 (i : Int)) = some (.pointer (some ⟨fb,i * 3,none⟩)):=(indexAddr_slice u196 sz200 (by omega) (by omega)).trans (by simp)
 have hfl : formsC.length = 9:=rfl
 have hr : h.row fb (i * 3) 3 = some (formR kd F g):=by
  have hg : h.get fb = some (.cells formsC 200 true):=S.sta.mem.at_ (i:=0) rfl
  rw [row_of hg,if_pos (by rw [hfl]; omega),hF]
 have e : (i : Int) + 1 = ((i + 1 : Nat) : Int):=by omega
 simp only [F128_lrlrr]
 with_reducible repeat (first | (apply qzV; simp (disch:=omega) only [zA,bzIc.1,hp,hr] <;> rfl) | apply qzT | apply qzF | (apply qzB; simp (disch:=omega) only [zA,bzIc.1,hp,hr] <;> rfl))
 refine Tl.alloc' S ze200 rfl fun b6 h1 S1 g1=>?_
 refine Tl.store' S1 0 rfl sz200 rfl rfl (of_decide_eq_true rfl) fun h2 S2 _=>?_
 have S2 : Stt prog h0.n h0 h2 ((b6,.cells (formR kd F g) 200 true) :: Fb fb :: L) O:=S2
 have c1:=S2.cell 0 (o:=1) (v:=fnV F) rfl rfl
 with_reducible repeat (first | (apply qzV; simp (disch:=omega) only [zA,bzIc.1,c1] <;> rfl) | apply qzT | apply qzF | (apply qzB; simp (disch:=omega) only [zA,bzIc.1,c1] <;> rfl))
 have S3:=S2.drop
 have ec : callV (eInv env k) (fnV F) #[v] h2 = eInv env k (.func F) #[] #[v] h2:=by
  have : callV (eInv env k) (fnV F) #[v] h2 = eInv env k (.func F) #[] (#[] ++ #[v]) h2:=rfl
  rw [this]; simp
 rw [ec]
 refine Tl.bind (C h2 (Sl1.grow A S3.grow)) ?_
 rintro ⟨r,h3⟩ ⟨o,er,g3,X⟩
 simp only at er g3 X
 subst er
 have S4:=S3.gain g3 X
 obtain ⟨a,c,eo,_⟩:=(X.slV).form
 with_reducible repeat (first | (apply qzV; simp (disch:=omega) only [zA,bzIc.1] <;> rfl) | apply qzT | apply qzF | (apply qzB; simp (disch:=omega) only [zA,bzIc.1] <;> rfl))
 have bso : pBuildSlice prog 195 1 #[(0,o)] h3 = some (.slice (some ⟨h3.n,0,none⟩) 1 1,h3.alloc (.cells [o] 93 true)):=by
  rw [eo]; exact bs195 _ _ _ _
 refine Tl.push S4 (m + 1) (by simpa using hm) app195 bso rfl (by rw [eo]; rfl) (by omega) fun av' h5 S5=>?_
 with_reducible repeat (first | (apply qzV; simp (disch:=omega) only [zA,bzIc.1] <;> rfl) | apply qzT | apply qzF | (apply qzB; simp (disch:=omega) only [zA,bzIc.1] <;> rfl))
 rw [e]
 exact hk h5 o av' (by simpa using S5)
def putI (l : List Int) : List Nat :=
 let m:=if (runsB l).length < (plainB l).length then runsB l else plainB l
 if (packB l).length < m.length then packB l else m
theorem f128s {k : Nat} {h : AH} {v : Value} {l : List Int} (A : Ints h v l) (hl : l.length ≤ 4096) (hk : l.length < k) :
  Tl (eInv env (k + 501) (.func 128) #[] #[v] h) fun r=>∃ o,r.1 = .tuple #[o,.int .i64 0] ∧ Stt prog h.n h r.2 [] [(o,1,u8rows (putI l))]:=by
 rw [F128_call]
 unfold F128
 refine Tl.bind (f169c (k:=k + 499) (Stt.init h)) ?_
 rintro ⟨r,h1⟩ ⟨fb,er,S1⟩
 simp only at er S1
 subst er
 have hv : ∀ h' : AH,pLen prog #[196] (.slice (some ⟨fb,0,none⟩) 3 3) h' = some (.int .i64 3):=fun h'=>len_slice u196
 with_reducible repeat (first | (apply qzV; simp (disch:=omega) only [zA,bzIc.1,hv] <;> rfl) | apply qzT | apply qzF | (apply qzB; simp (disch:=omega) only [zA,bzIc.1,hv] <;> rfl))
 have S1:=S1.nil 1
 refine f128_step (i:=0) (m:=0) (brs:=[]) (L:=[]) (j:=k + 499) A (by omega) (kd:=1) (F:=192) (g:=193) rfl rfl (by simp) S1 (fun h' A'=>by
  have:=f192c (k:=k + 470) A' hl (by omega)
  exact this) fun h2 pv a1 S2=>?_
 refine f128_step (i:=1) (m:=1) (brs:=[] ++ [[pv]]) (L:=[]) (j:=k + 498) A (by omega) (kd:=2) (F:=194) (g:=195) rfl rfl (by simp) S2 (fun h' A'=>by
  have:=f194c (k:=k + 470) A' hl (by omega)
  exact this) fun h3 rv a2 S3=>?_
 refine f128_step (i:=2) (m:=2) (brs:=[] ++ [[pv]] ++ [[rv]]) (L:=[]) (j:=k + 497) A (by omega) (kd:=3) (F:=196) (g:=197) rfl rfl (by simp) S3 (fun h' A'=>by
  have:=f196c (k:=k) A' hl (by omega)
  exact this) fun h4 tv a3 S4=>?_
 have S4 : Stt prog h.n h h4 [Fb fb] [(tv,1,u8rows (packB l)),(rv,1,u8rows (runsB l)),(pv,1,u8rows (plainB l)),(a3,1,[[pv],[rv],[tv]])]:=S4
 have A3 : Sl1 prog h4 a3 (fun x : Value × List Nat=>x.1) ((pv,plainB l) :: [(rv,runsB l),(tv,packB l)]):=S4.slV 3 rfl
 have hB : ∀ x ∈ (pv,plainB l) :: [(rv,runsB l),(tv,packB l)],Bytes h4 x.1 x.2:=fun x hx=>by
  simp only [List.mem_cons,List.not_mem_nil,or_false] at hx
  rcases hx with rfl | rfl | rfl
  ·exact S4.sl1 (f:=u8v) 2 rfl
  ·exact S4.sl1 (f:=u8v) 1 rfl
  ·exact S4.sl1 (f:=u8v) 0 rfl
 have mb:=f170c (k:=k + 496) A3 hB (by simp) (by simp)
 obtain ⟨j,hj⟩ : ∃ j,k + 497 = j + 1:=⟨k + 496,rfl⟩
 rw [hj]
 simp only [F128_lrlrr]
 with_reducible repeat (first | (apply qzV; simp (disch:=omega) only [zA,bzIc.1,mb] <;> rfl) | apply qzT | apply qzF | (apply qzB; simp (disch:=omega) only [zA,bzIc.1,mb] <;> rfl))
 refine ⟨_,rfl,_,rfl,?_⟩
 have K0 : Stt prog h.n h h4 [] [(tv,1,u8rows (packB l))]:=(S4.keepO (.cons_cons _ (List.nil_sublist _))).drop
 have K1 : Stt prog h.n h h4 [] [(rv,1,u8rows (runsB l))]:=(S4.keepO (.cons _ (.cons_cons _ (List.nil_sublist _)))).drop
 have K2 : Stt prog h.n h h4 [] [(pv,1,u8rows (plainB l))]:=(S4.keepO (.cons _ (.cons _ (.cons_cons _ (List.nil_sublist _))))).drop
 unfold putI
 simp only [List.foldl_cons,List.foldl_nil,shorter]
 by_cases q1 : (runsB l).length < (plainB l).length
 ·simp only [if_pos q1]
  by_cases q2 : (packB l).length < (runsB l).length
  ·simp only [if_pos q2]; exact K0
  ·simp only [if_neg q2]; exact K1
 ·simp only [if_neg q1]
  by_cases q2 : (packB l).length < (plainB l).length
  ·simp only [if_pos q2]; exact K0
  ·simp only [if_neg q2]; exact K2
end
end Go.Proofs.YtlbmlncdjkdoaaaGreat.Sh
/- Texts in slices: light ones, own ones, held against each other. -/
set_option linter.unusedVariables false
set_option linter.unusedSimpArgs false
set_option maxRecDepth 100000
namespace Go.Proofs.YtlbmlncdjkdoaaaGreat.Sh
open Go Go.RowKit Go.Proofs.Ev
open Tryz (prog)
def Strs (h : AH) (v : Value) (l : List ByteArray) : Prop:=Sl1 prog h v Value.string l
def srows (l : List ByteArray) : List (List Value):=l.map fun x=>[Value.string x]
theorem srows_len (l : List ByteArray) : (srows l).length = l.length:=List.length_map ..
theorem srows_app (l m : List ByteArray) : srows (l ++ m) = srows l ++ srows m:=List.map_append
theorem srows_flat (l : List ByteArray) : (srows l).flatten = l.map Value.string:=by
 induction l with
 | nil=>rfl
 | cons x l ih=>simp only [srows,List.map_cons,List.flatten_cons] at ih ⊢; rw [ih]; rfl
theorem srows_wide (l : List ByteArray) : ∀ r ∈ srows l,r.length = 1:=fun r hr=>by
 obtain ⟨x,_,rfl⟩:=List.mem_map.1 hr
 rfl
theorem Strs.grow {h h' : AH} {v : Value} {l : List ByteArray} (S : Strs h v l) (g : Grow h h') : Strs h' v l:=Sl1.grow S g
theorem Strs.len {h h' : AH} {v : Value} {l : List ByteArray} (S : Strs h v l) : pLen prog #[27] v h' = some (.int .i64 l.length):=Sl1.len S u27
theorem Strs.at_ {h : AH} {v : Value} {l : List ByteArray} (S : Strs h v l) {k : IntKind} {i : Nat} {x : ByteArray} (hi : l[i]? = some x) :
  ∃ b o,pIndexAddr prog 27 v (.int k i) = some (.pointer (some ⟨b,o,none⟩)) ∧ ∀ h',Grow h h'→h'.cell b o = some (.string x):=Sl1.at_ S hi u27 sz9
theorem Stt.strs {n0 : Nat} {h0 h : AH} {L : List (Nat × AO)} {O : List OS} (S : Stt prog n0 h0 h L O) (i : Nat) {v : Value} {l : List ByteArray} (hi : O[i]? = some (v,1,srows l)) : Strs h v l:=S.slV i hi
theorem len_s (s : ByteArray) (h : AH) : pLen prog #[9] (.string s) h = some (.int .i64 s.size):=len_string u9
theorem eq_s {x y : Operand} {a b : ByteArray} : pBin prog .eql 9 x y (.string a) (.string b) = some (.bool (decide (a = b))):=bin_eql_string
theorem ne_s {x y : Operand} {a b : ByteArray} : pBin prog .neq 9 x y (.string a) (.string b) = some (.bool (!decide (a = b))):=bin_neq_string
/-- What all texts' bytes together are. -/
def total (l : List ByteArray) : Nat:=(l.map (·.size)).sum
end Go.Proofs.YtlbmlncdjkdoaaaGreat.Sh
/- Texts plain: told one by one; whether they may be. -/
set_option linter.unusedVariables false
set_option linter.unusedSimpArgs false
set_option maxRecDepth 100000
namespace Go.Proofs.YtlbmlncdjkdoaaaGreat.Sh
open Go Go.RowKit Go.Proofs.Ev
open Tryz (prog)
def bzXc:=PLift.up (ai @ld3 (ai @ld9 (ai @ld27 (ai @ld93 (ai (fun a h=>conv_int (a:=a) (h:=h) u3 u121) (ai @Nat.add_zero (ai @ex2_0 (@ex2_1))))))))
/-! ### May texts be? -/
def longS (s : ByteArray) : Bool:=decide ((s.size : Int) > 65536)
theorem f216c {k : Nat} (s : ByteArray) (h : AH) : callV (eInv env (k + 1)) (.func (.func 216) #[] #[]) #[.string s] h = some (.bool (longS s),h):=by
 rw [callV_fn1,F216_call]
 unfold F216
 simp only [len_s,bin_gtr,bnd_some,longS]
theorem f81_loop {β : Type} {inv : Inv} {k : Nat} {Q : β→Prop} {h : AH} {v fv : Value} {l : List ByteArray} {p : ByteArray→Bool} (A : Strs h v l) (hl : l.length ≤ 2 ^ 40) (hp : ∀ x,callV inv fv #[.string x] h = some (.bool (p x),h)) {ke0 : Value→Value→Value→Value→Value→AH→Option β} {kr : Value→AH→Option β} (n : Nat) :
  ∀ {i j : Nat},i + n = l.length→n < j→((l.drop i).any p = false→∀ y1 y2,Tl (ke0 v fv (.int .i64 l.length) y1 y2 h) Q)→((l.drop i).any p = true→∀ z : Nat,Tl (kr (.int .i64 z) h) Q) →
   Tl (F81_lrlr inv k j v fv (.int .i64 l.length) (.int .i64 i) h ke0 kr) Q:=by
 induction n with
 | zero =>
  intro i j hi hj hk hr
  obtain ⟨j,rfl⟩ : ∃ q,j = q + 1:=⟨j - 1,by omega⟩
  simp only [F81_lrlr]
  with_reducible repeat (first | (apply qzV; simp (disch:=omega) only [zA,bzXc.1] <;> rfl) | apply qzT | apply qzF | (apply qzB; simp (disch:=omega) only [zA,bzXc.1] <;> rfl))
  rw [List.drop_eq_nil_of_le (by omega)] at hk
  exact hk rfl _ _
 | succ n ih =>
  intro i j hi hj hk hr
  obtain ⟨j,rfl⟩ : ∃ q,j = q + 1:=⟨j - 1,by omega⟩
  obtain ⟨x,ex⟩ : ∃ x,l[i]? = some x:=⟨_,List.getElem?_eq_getElem (by omega)⟩
  obtain ⟨b,o,hpp,hc⟩:=A.at_ (k:=.i64) ex
  have hc:=hc h (Grow.refl _)
  have hd : l.drop i = x :: l.drop (i + 1):=by rw [List.drop_eq_getElem?_toList_append,ex]; rfl
  rw [hd,List.any_cons] at hk hr
  have e : (i : Int) + 1 = ((i + 1 : Nat) : Int):=by omega
  have e1:=hp x
  simp only [F81_lrlr]
  cases q : p x
  ·rw [q] at e1
   with_reducible repeat (first | (apply qzV; simp (disch:=omega) only [zA,bzXc.1,hpp,hc,e1] <;> rfl) | apply qzT | apply qzF | (apply qzB; simp (disch:=omega) only [zA,bzXc.1,hpp,hc,e1] <;> rfl))
   rw [e]
   exact ih (by omega) (by omega) (fun h=>hk (by rw [q,h]; rfl)) (fun h=>hr (by rw [h]; simp))
  ·rw [q] at e1
   with_reducible repeat (first | (apply qzV; simp (disch:=omega) only [zA,bzXc.1,hpp,hc,e1] <;> rfl) | apply qzT | apply qzF | (apply qzB; simp (disch:=omega) only [zA,bzXc.1,hpp,hc,e1] <;> rfl))
   exact hr (by rw [q]; rfl) i
theorem f61c {k : Nat} {h : AH} {v fv : Value} {l : List ByteArray} {p : ByteArray→Bool} (A : Strs h v l) (hl : l.length ≤ 2 ^ 40) (hp : ∀ x,callV (eInv env (k + 1)) fv #[.string x] h = some (.bool (p x),h)) (hk : l.length < k + 1) :
  eInv env (k + 3) (.func 61) #[] #[v,fv] h = some (.bool (l.any p),h):=by
 have T : Tl (F81 (eInv env (k + 1)) (k + 1) v fv h) fun r=>∃ z : Int,r = (.int .i64 z,h) ∧ decide (z ≥ 0) = l.any p:=by
  unfold F81
  have ll : ∀ h',pLen prog #[27] v h' = some (.int .i64 l.length):=fun h'=>A.len
  with_reducible repeat (first | (apply qzV; simp (disch:=omega) only [zA,bzXc.1,ll] <;> rfl) | apply qzT | apply qzF | (apply qzB; simp (disch:=omega) only [zA,bzXc.1,ll] <;> rfl))
  refine f81_loop A hl hp l.length (i:=0) (by omega) (by omega) (fun hq y1 y2=>⟨_,rfl,-1,rfl,?_⟩) (fun hq z=>⟨_,rfl,z,rfl,?_⟩)
  ·rw [List.drop_zero] at hq
   rw [hq]; rfl
  ·rw [List.drop_zero] at hq
   rw [hq]; simp
 obtain ⟨r,h1,z,h2,h3⟩:=T
 rw [F61_call]
 unfold F61
 rw [F81_call,h1,h2]
 simp only [bnd_some,bin_geq,h3]
def mayT (l : List ByteArray) : Bool:=decide (l.length ≤ 4096) && !(l.any longS)
def checkT (l : List ByteArray) : Int:=if mayT l then 0 else 3
theorem f203c {k : Nat} {h : AH} {v : Value} {l : List ByteArray} (A : Strs h v l) (hl : l.length ≤ 9223372036854775807) (hk : 4096 < k + 1) : eInv env (k + 4) (.func 203) #[] #[v] h = some (.int .i64 (checkT l),h):=by
 have T : Tl (F203 (eInv env (k + 3)) (k + 3) v h) fun r=>r = (.int .i64 (checkT l),h):=by
  unfold F203
  have ll : ∀ h',pLen prog #[27] v h' = some (.int .i64 l.length):=fun h'=>A.len
  by_cases q : l.length ≤ 4096
  ·have hc:=f61c (k:=k) (p:=longS) A (by omega) (fun x=>f216c x h) (by omega)
   unfold checkT mayT
   cases q2 : l.any longS
   ·rw [q2] at hc
    with_reducible repeat (first | (apply qzV; simp (disch:=omega) only [zA,bzXc.1,ll,hc] <;> rfl) | apply qzT | apply qzF | apply qzG | ((first | apply qzB | apply qzC); simp (disch:=omega) only [zA,bzXc.1,ll,hc] <;> rfl))
    exact ⟨_,rfl,by simp [q]⟩
   ·rw [q2] at hc
    with_reducible repeat (first | (apply qzV; simp (disch:=omega) only [zA,bzXc.1,ll,hc] <;> rfl) | apply qzT | apply qzF | apply qzG | ((first | apply qzB | apply qzC); simp (disch:=omega) only [zA,bzXc.1,ll,hc] <;> rfl))
    exact ⟨_,rfl,by simp⟩
  ·with_reducible repeat (first | (apply qzV; simp (disch:=omega) only [zA,bzXc.1,ll] <;> rfl) | apply qzT | apply qzF | apply qzG | ((first | apply qzB | apply qzC); simp (disch:=omega) only [zA,bzXc.1,ll] <;> rfl))
   exact ⟨_,rfl,by unfold checkT mayT; simp [q]⟩
 obtain ⟨r,h1,h2⟩:=T
 rw [F203_call,h1,h2]
/-! ### Told one by one -/
theorem appStr : AppG prog #[93,9] 5 1 1:=⟨by kernel_rfl,⟨_,u9,rfl⟩,by kernel_rfl,by omega,by kernel_rfl,⟨_,ze5,rfl,rfl⟩⟩
def textP (s : ByteArray) : List Nat:=pvarN s.size ++ bytesN s
theorem textP_len (s : ByteArray) (hs : s.size ≤ 2 ^ 29) : (textP s).length ≤ s.size + 10:=by
 unfold textP
 rw [List.length_append,bytesN_len]
 have:=pvarN_le10 (n:=s.size) (by omega)
 omega
section
variable {β : Type} {Q : β→Prop} {n0 : Nat} {h0 h : AH} {L : List (Nat × AO)} {O : List OS}
theorem f204c {k : Nat} {v : Value} {l : List Nat} {s : ByteArray} (hs : s.size ≤ 2 ^ 29) (hl : l.length ≤ 2 ^ 29) (S : Stt prog n0 h0 h L ((v,1,u8rows l) :: O)) :
  Tl (eInv env (k + 21) (.func 204) #[] #[v,.string s] h) fun r=>Stt prog n0 h0 r.2 L ((r.1,1,u8rows (l ++ textP s)) :: O):=by
 rw [F204_call]
 unfold F204
 with_reducible repeat (first | (apply qzV; simp (disch:=omega) only [zA,bzXc.1,len_s] <;> rfl) | apply qzT | apply qzF | (apply qzB; simp (disch:=omega) only [zA,bzXc.1,len_s] <;> rfl))
 refine Tl.bind (f86c (k:=k) s.size (by omega) hl S) ?_
 rintro ⟨v',h'⟩ S'
 simp only at S'
 have h10:=pvarN_le10 (n:=s.size) (by omega)
 refine Tl.appendS S' 0 rfl appStr (by rw [u8rows_len,List.length_append]; omega) fun v'' h'' S''=>?_
 with_reducible repeat (first | (apply qzV; simp (disch:=omega) only [zA,bzXc.1] <;> rfl) | apply qzT | apply qzF | (apply qzB; simp (disch:=omega) only [zA,bzXc.1] <;> rfl))
 refine ⟨_,rfl,?_⟩
 have e : u8rows (l ++ textP s) = u8rows (l ++ pvarN s.size) ++ (bytesN s).map fun x : Nat=>[Value.int .u8 (x : Int)]:=by
  unfold textP
  rw [← List.append_assoc]
  exact List.map_append
 rw [e]
 exact S''
theorem f178_loop {k : Nat} {v : Value} {l : List ByteArray} (A : Strs h0 v l) (hl : l.length ≤ 4096) (hs : ∀ x ∈ l,x.size ≤ 65536) {ke0 : Value→Value→Value→Value→Value→AH→Option β} (n : Nat) :
  ∀ {i j : Nat} {h : AH} {ov : Value} {out : List Nat},i + n = l.length→n < j→out.length ≤ 20 + i * 65546→Stt prog h0.n h0 h L ((ov,1,u8rows out) :: O) →
   (∀ h' y y1 y2,Stt prog h0.n h0 h' L ((y,1,u8rows (out ++ (l.drop i).flatMap textP)) :: O)→Tl (ke0 y v (.int .i64 l.length) y1 y2 h') Q) →
   Tl (F178_lrlrrr (eInv env (k + 21)) (k + 21) j ov v (.int .i64 l.length) (.int .i64 i) h ke0) Q:=by
 induction n with
 | zero =>
  intro i j h ov out hi hj ho S hk
  obtain ⟨j,rfl⟩ : ∃ q,j = q + 1:=⟨j - 1,by omega⟩
  simp only [F178_lrlrrr]
  with_reducible repeat (first | (apply qzV; simp (disch:=omega) only [zA,bzXc.1] <;> rfl) | apply qzT | apply qzF | (apply qzB; simp (disch:=omega) only [zA,bzXc.1] <;> rfl))
  rw [List.drop_eq_nil_of_le (by omega)] at hk
  refine hk _ _ _ _ ?_
  simpa using S
 | succ n ih =>
  intro i j h ov out hi hj ho S hk
  obtain ⟨j,rfl⟩ : ∃ q,j = q + 1:=⟨j - 1,by omega⟩
  obtain ⟨x,ex⟩ : ∃ x,l[i]? = some x:=⟨_,List.getElem?_eq_getElem (by omega)⟩
  obtain ⟨b,o,hp,hc⟩:=(A.grow S.grow).at_ (k:=.i64) ex
  have hc:=hc h (Grow.refl _)
  have hx:=hs x (List.mem_of_getElem? ex)
  have hd : l.drop i = x :: l.drop (i + 1):=by rw [List.drop_eq_getElem?_toList_append,ex]; rfl
  have e : (i : Int) + 1 = ((i + 1 : Nat) : Int):=by omega
  simp only [F178_lrlrrr]
  with_reducible repeat (first | (apply qzV; simp (disch:=omega) only [zA,bzXc.1,hp,hc] <;> rfl) | apply qzT | apply qzF | (apply qzB; simp (disch:=omega) only [zA,bzXc.1,hp,hc] <;> rfl))
  have him : i * 65546 ≤ 4096 * 65546:=Nat.mul_le_mul_right _ (by omega)
  refine Tl.bind (f204c (k:=k) (s:=x) (by omega) (by omega) S) ?_
  rintro ⟨v',h'⟩ S'
  simp only at S'
  have ht:=textP_len x (by omega)
  with_reducible repeat (first | (apply qzV; simp (disch:=omega) only [zA,bzXc.1] <;> rfl) | apply qzT | apply qzF | (apply qzB; simp (disch:=omega) only [zA,bzXc.1] <;> rfl))
  rw [e]
  refine ih (out:=out ++ textP x) (by omega) (by omega) (by rw [List.length_append]; omega) S' fun h' y y1 y2 S''=>hk h' y y1 y2 ?_
  rw [hd,List.flatMap_cons,← List.append_assoc]
  exact S''
def plainT (l : List ByteArray) : List Nat:=1 :: (pvarN l.length ++ l.flatMap textP)
def plainG (l : List ByteArray) : List Nat:=if mayT l then plainT l else []
theorem mayT_spec {l : List ByteArray} : mayT l = true ↔ l.length ≤ 4096 ∧ ∀ x ∈ l,x.size ≤ 65536:=by
 unfold mayT
 rw [Bool.and_eq_true,decide_eq_true_eq,Bool.not_eq_true',List.any_eq_false]
 refine and_congr_right fun _=>forall_congr' fun x=>forall_congr' fun _=>?_
 unfold longS
 simp
 omega
theorem f178c {k : Nat} {v : Value} {l : List ByteArray} (A : Strs h v l) (hl : l.length ≤ 9223372036854775807) (hk : 4096 < k + 18) :
  Tl (eInv env (k + 22) (.func 178) #[] #[v] h) fun r=>∃ v',r.1 = .tuple #[v',.int .i64 (checkT l)] ∧ Stt prog h.n h r.2 [] [(v',1,u8rows (plainG l))]:=by
 rw [F178_call]
 unfold F178
 have hc:=f203c (k:=k + 17) A hl (by omega)
 have ll : ∀ h',pLen prog #[27] v h' = some (.int .i64 l.length):=fun h'=>A.len
 unfold checkT plainG at *
 cases q : mayT l
 ·rw [q] at hc
  simp only [Bool.false_eq_true,if_false] at hc ⊢
  with_reducible repeat (first | (apply qzV; simp (disch:=omega) only [zA,bzXc.1,hc] <;> rfl) | apply qzT | apply qzF | (apply qzB; simp (disch:=omega) only [zA,bzXc.1,hc] <;> rfl))
  exact ⟨_,rfl,_,rfl,(Stt.init h).nil 1⟩
 ·rw [q] at hc
  simp only [if_true] at hc ⊢
  obtain ⟨q1,q2⟩:=mayT_spec.1 q
  with_reducible repeat (first | (apply qzV; simp (disch:=omega) only [zA,bzXc.1,hc,bs93,ll] <;> rfl) | apply qzT | apply qzF | (apply qzB; simp (disch:=omega) only [zA,bzXc.1,hc,bs93,ll] <;> rfl))
  have S0 : Stt prog h.n h (h.alloc (.cells (u8rows [1]).flatten 5 true)) [(h.n,.cells (u8rows [1]).flatten 5 true)] []:=(Stt.init h).alloc _
  have S1:=S0.absorb (n:=1) (u8v_wide [1]) sz5
  refine Tl.bind (f86c (k:=k + 1) l.length (by omega) (by simp) S1) ?_
  rintro ⟨v2,h2⟩ S2
  simp only at S2
  have h10:=pvarN_le10 (n:=l.length) (by omega)
  with_reducible repeat (first | (apply qzV; simp (disch:=omega) only [zA,bzXc.1,ll] <;> rfl) | apply qzT | apply qzF | (apply qzB; simp (disch:=omega) only [zA,bzXc.1,ll] <;> rfl))
  refine f178_loop (k:=k) A q1 q2 l.length (i:=0) (out:=[1] ++ pvarN l.length) (by omega) (by omega) (by simp; omega) S2 fun h' y y1 y2 S'=>?_
  refine ⟨_,rfl,_,rfl,?_⟩
  unfold plainT
  rw [List.drop_zero] at S'
  simpa using S'
end
end Go.Proofs.YtlbmlncdjkdoaaaGreat.Sh
/- Codecs: how a cell becomes a value, and a value bytes; 'zone'. -/
set_option linter.unusedVariables false
set_option linter.unusedSimpArgs false
set_option maxRecDepth 100000
namespace Go.Proofs.YtlbmlncdjkdoaaaGreat.Sh
open Go Go.RowKit Go.Proofs.Ev Go.Lib
open Tryz (prog)
def bzS2:=PLift.up (ai @ld3 (ai @ld2 (ai @ld9 (ai @ld121 (ai @ld39 (ai @ld53 (ai @ld126 (ai @ld134 (ai @ld142 (ai @ld127 (ai @ld120 (ai @ld143 (ai @ld129 (ai @ld137 (ai @ld145 (ai @fa132_0 (ai @fa132_2 (ai @fa132_4 (ai @fa140_0 (ai @fa140_2 (ai @fa140_4 (ai @fa148_0 (ai @fa148_2 (ai @fa148_4 (ai @fa39_0 (ai @fa39_1 (ai @fa39_2 (ai @fa53_0 (ai @fa53_1 (ai @fa53_2 (ai @fa53_3 (ai (fun a h=>conv_int (a:=a) (h:=h) u2 u121) (ai (fun a h=>conv_int (a:=a) (h:=h) u121 u2) (ai (fun a h=>conv_int (a:=a) (h:=h) u121 u5) (ai (fun a h=>conv_int (a:=a) (h:=h) u3 u121) (ai @aggC (ai @wrapU (ai @ex2_0 (ai @ex2_1 (@Nat.add_zero))))))))))))))))))))))))))))))))))))))))
theorem sameF {f : Nat} : sameV (.func (.func f) #[] #[]) (.func (.func f) #[] #[]) = true:=by simp [sameV,sameList,same0,beqB]
theorem conv_u8 {x : Nat} {h : AH} : pConv prog 121 5 (.int .u64 (x : Int)) h = some (.int .u8 ((x % 256 : Nat) : Int)):=by
 rw [conv_int u121 u5,wrap_u8]; congr 2
section
variable {n0 : Nat} {h0 h : AH} {L : List (Nat × AO)} {O : List OS}
theorem isN : (szT prog 132).isSome = true:=by rw [sz132]; rfl
def oneN (c : CellD) : List Nat:=le (toU c.i) 0 8
theorem f122c {k : Nat} (c : CellD) (h : AH) : Tl (eInv env (k + 1) (.func 122) #[] #[c.v] h) fun r=>r.1 = .int .i64 c.i ∧ Grow h r.2:=by
 rw [F122_call]
 unfold F122
 refine Tl.box' (Stt.init h) rfl isC fun b1 h1 S1 _=>?_
 have S1 : Stt prog h.n h h1 [Cr b1 c] []:=S1
 obtain ⟨_,_,ic,sc⟩:=c_at S1 0 rfl
 with_reducible repeat (first | (apply qzV; simp (disch:=omega) only [zA,bzS2.1,ic,sc] <;> rfl) | apply qzT | apply qzF | (apply qzB; simp (disch:=omega) only [zA,bzS2.1,ic,sc] <;> rfl))
 exact ⟨_,rfl,rfl,S1.grow⟩
theorem isT : (szT prog 140).isSome = true:=by rw [sz140]; rfl
def oneT (c : CellD) : List Nat:=[toU c.i % 256]
theorem f131c {k : Nat} (c : CellD) (h : AH) : Tl (eInv env (k + 1) (.func 131) #[] #[c.v] h) fun r=>r.1 = .int .u64 (toU c.i : Int) ∧ Grow h r.2:=by
 rw [F131_call]
 unfold F131
 refine Tl.box' (Stt.init h) rfl isC fun b1 h1 S1 _=>?_
 have S1 : Stt prog h.n h h1 [Cr b1 c] []:=S1
 obtain ⟨_,_,ic,sc⟩:=c_at S1 0 rfl
 with_reducible repeat (first | (apply qzV; simp (disch:=omega) only [zA,bzS2.1,ic,sc] <;> rfl) | apply qzT | apply qzF | (apply qzB; simp (disch:=omega) only [zA,bzS2.1,ic,sc] <;> rfl))
 exact ⟨_,rfl,rfl,S1.grow⟩
theorem isW : (szT prog 148).isSome = true:=by rw [sz148]; rfl
def oneW (c : CellD) : List Nat:=pvarN c.s.size ++ bytesN c.s
theorem f138c {k : Nat} (c : CellD) (h : AH) : Tl (eInv env (k + 1) (.func 138) #[] #[c.v] h) fun r=>r.1 = .string c.s ∧ Grow h r.2:=by
 rw [F138_call]
 unfold F138
 refine Tl.box' (Stt.init h) rfl isC fun b1 h1 S1 _=>?_
 have S1 : Stt prog h.n h h1 [Cr b1 c] []:=S1
 obtain ⟨_,_,ic,sc⟩:=c_at S1 0 rfl
 with_reducible repeat (first | (apply qzV; simp (disch:=omega) only [zA,bzS2.1,ic,sc] <;> rfl) | apply qzT | apply qzF | (apply qzB; simp (disch:=omega) only [zA,bzS2.1,ic,sc] <;> rfl))
 exact ⟨_,rfl,rfl,S1.grow⟩
theorem f124c {k : Nat} {v : Value} {l : List Nat} (c : CellD) (hl : l.length ≤ 2 ^ 28) (S : Stt prog n0 h0 h L ((v,1,u8rows l) :: O)) :
  Tl (eInv env (k + 21) (.func 124) #[] #[v,.int .i64 c.i] h) fun r=>Stt prog n0 h0 r.2 L ((r.1,1,u8rows (l ++ oneN c)) :: O):=by
 rw [F124_call]
 unfold F124 oneN
 with_reducible repeat (first | (apply qzV; simp (disch:=omega) only [zA,bzS2.1] <;> rfl) | apply qzT | apply qzF | (apply qzB; simp (disch:=omega) only [zA,bzS2.1] <;> rfl))
 refine Tl.bind (f125c (k:=k) (toU c.i) (by omega) S) ?_
 rintro ⟨r,h1⟩ S1
 exact ⟨_,rfl,S1⟩
theorem f133c {k : Nat} {v : Value} {l : List Nat} (c : CellD) (hl : l.length ≤ 2 ^ 28) (S : Stt prog n0 h0 h L ((v,1,u8rows l) :: O)) :
  Tl (eInv env (k + 21) (.func 133) #[] #[v,.int .u64 (toU c.i : Int)] h) fun r=>Stt prog n0 h0 r.2 L ((r.1,1,u8rows (l ++ oneT c)) :: O):=by
 rw [F133_call]
 unfold F133 oneT
 with_reducible repeat (first | (apply qzV; simp (disch:=omega) only [zA,bzS2.1,conv_u8] <;> rfl) | apply qzT | apply qzF | (apply qzB; simp (disch:=omega) only [zA,bzS2.1,conv_u8] <;> rfl))
 refine Tl.push S 0 rfl app93 (bs93 _ _) rfl rfl (by rw [u8rows_len]; omega) fun v' h' S'=>?_
 refine ⟨_,rfl,?_⟩
 simpa [u8rows,u8v,wrap_u8] using S'
theorem f140c {k : Nat} {v : Value} {l : List Nat} (c : CellD) (hc : c.s.size ≤ 2 ^ 28) (hl : l.length ≤ 2 ^ 28) (S : Stt prog n0 h0 h L ((v,1,u8rows l) :: O)) :
  Tl (eInv env (k + 21) (.func 140) #[] #[v,.string c.s] h) fun r=>Stt prog n0 h0 r.2 L ((r.1,1,u8rows (l ++ oneW c)) :: O):=by
 rw [F140_call]
 unfold F140 oneW
 have hs : ∀ h' : AH,pLen prog #[9] (.string c.s) h' = some (.int .i64 c.s.size):=fun h'=>len_string u9
 have ew : toU (c.s.size : Int) = c.s.size:=by unfold toU; omega
 have hp:=pvarN_le10 (n:=c.s.size) (by omega)
 with_reducible repeat (first | (apply qzV; simp (disch:=omega) only [zA,bzS2.1,hs,ew] <;> rfl) | apply qzT | apply qzF | (apply qzB; simp (disch:=omega) only [zA,bzS2.1,hs,ew] <;> rfl))
 refine Tl.bind (f86c (k:=k) c.s.size (by omega) (by omega) S) ?_
 rintro ⟨v1,h1⟩ S1
 refine Tl.appendS S1 0 rfl appStr (by rw [u8rows_len,List.length_append]; omega) fun v2 h2 S2=>?_
 refine ⟨_,rfl,?_⟩
 have e : u8rows (l ++ pvarN c.s.size) ++ ((bytesN c.s).map fun x : Nat=>[Value.int .u8 (x : Int)]) = u8rows (l ++ (pvarN c.s.size ++ bytesN c.s)):=by simp [u8rows,u8v]
 rw [← e]
 exact S2
theorem lenN (c : CellD) : (oneN c).length ≤ 2 ^ 21:=by
 unfold oneN
 rw [le_len]; decide
/-- 'zone'. -/
theorem zoneN_c {k : Nat} {v : Value} {l : List Nat} (z : ZoneD) (hl : l.length ≤ 2 ^ 26) (S : Stt prog n0 h0 h L ((v,1,u8rows l) :: O)) :
  Tl (eInv env (k + 31) (.method "shadowbook/segment.zone") #[] #[.iface 132 (.agg codNL.toArray), v, zv z] h) fun r => Stt prog n0 h0 r.2 L ((r.1, 1, u8rows (l ++ (oneN z.mn ++ oneN z.mx))) :: O) := by
 rw [show eInv env (k + 31) (.method "shadowbook/segment.zone") #[] #[.iface 132 (.agg codNL.toArray), v, zv z] h = F262 (eInv env (k + 30)) (k + 30) (.agg codNL.toArray) v (zv z) h from
  (by kernel_rfl : _ = eFun env (k + 30) (eInv env (k + 30)) 262 #[.agg codNL.toArray,v,zv z] h).trans F262_eq]
 unfold F262
 have q1:=lenN z.mn
 refine Tl.box' S rfl isN fun b3 h1 S1 _=>?_
 refine Tl.box' S1 rfl isZ fun b5 h2 S2 _=>?_
 have S2 : Stt prog n0 h0 h2 (Zr b5 z :: (b3,.cells codNL 132 true) :: L) ((v,1,u8rows l) :: O):=S2
 have F0 : ∀ {h' : AH} {O' : List OS},Stt prog n0 h0 h' (Zr b5 z :: (b3,.cells codNL 132 true) :: L) O'→h'.cell b3 0 = some (.func (.func 122) #[] #[]) ∧ h'.cell b3 2 = some (.func (.func 124) #[] #[]) ∧ h'.row b5 2 3 = some (crow z.mn) ∧ h'.row b5 5 3 = some (crow z.mx):=fun T=>⟨T.cell 1 rfl rfl,T.cell 1 rfl rfl,(z_at T 0 rfl).mn,(z_at T 0 rfl).mx⟩
 obtain ⟨a0,a1,a2,a3⟩:=F0 S2
 with_reducible repeat (first | (apply qzV; simp (disch:=omega) only [zA,bzS2.1,a0,a1,a2,a3] <;> rfl) | apply qzT | apply qzF | (apply qzB; simp (disch:=omega) only [zA,bzS2.1,a0,a1,a2,a3] <;> rfl))
 rw [callV_fn1]
 with_reducible refine Tl.call' S2 (f122c (k:=k + 29) z.mn h2) fun h3 S3 _=>?_
 obtain ⟨c0,c1,c2,c3⟩:=F0 S3
 rw [callV_fn2]
 refine Tl.bind (f124c (k:=k + 9) z.mn (by omega) S3) ?_
 rintro ⟨v4,h4⟩ S4
 obtain ⟨d0,d1,d2,d3⟩:=F0 S4
 with_reducible repeat (first | (apply qzV; simp (disch:=omega) only [zA,bzS2.1,d0,d1,d2,d3] <;> rfl) | apply qzT | apply qzF | (apply qzB; simp (disch:=omega) only [zA,bzS2.1,d0,d1,d2,d3] <;> rfl))
 rw [callV_fn1]
 with_reducible refine Tl.call' S4 (f122c (k:=k + 29) z.mx h4) fun h5 S5 _=>?_
 obtain ⟨e0,e1,e2,e3⟩:=F0 S5
 rw [callV_fn2]
 refine Tl.bind (f124c (k:=k + 9) z.mx (by rw [List.length_append]; omega) S5) ?_
 rintro ⟨v6,h6⟩ S6
 with_reducible refine Tl.chk ?_ ?_
 ·simp only [ld39,ld126,ld127,Nat.zero_add,a0,a1,a2,a3,c0,c1,c2,c3,d0,d1,d2,d3,e0,e1,e2,e3,Option.map_some,aggC,sameO_some,sameC,sameF,Bool.and_self,Bool.not_true,Bool.or_true,Bool.true_and,Bool.false_or]
 refine ⟨_,rfl,?_⟩
 rw [← List.append_assoc]
 exact S6.drop.drop
theorem lenT (c : CellD) : (oneT c).length ≤ 2 ^ 21:=by
 unfold oneT
 simp
/-- 'zone'. -/
theorem zoneT_c {k : Nat} {v : Value} {l : List Nat} (z : ZoneD) (hl : l.length ≤ 2 ^ 26) (S : Stt prog n0 h0 h L ((v,1,u8rows l) :: O)) :
  Tl (eInv env (k + 31) (.method "shadowbook/segment.zone") #[] #[.iface 140 (.agg codTL.toArray), v, zv z] h) fun r => Stt prog n0 h0 r.2 L ((r.1, 1, u8rows (l ++ (oneT z.mn ++ oneT z.mx))) :: O) := by
 rw [show eInv env (k + 31) (.method "shadowbook/segment.zone") #[] #[.iface 140 (.agg codTL.toArray), v, zv z] h = F266 (eInv env (k + 30)) (k + 30) (.agg codTL.toArray) v (zv z) h from
  (by kernel_rfl : _ = eFun env (k + 30) (eInv env (k + 30)) 266 #[.agg codTL.toArray,v,zv z] h).trans F266_eq]
 unfold F266
 have q1:=lenT z.mn
 refine Tl.box' S rfl isT fun b3 h1 S1 _=>?_
 refine Tl.box' S1 rfl isZ fun b5 h2 S2 _=>?_
 have S2 : Stt prog n0 h0 h2 (Zr b5 z :: (b3,.cells codTL 140 true) :: L) ((v,1,u8rows l) :: O):=S2
 have F0 : ∀ {h' : AH} {O' : List OS},Stt prog n0 h0 h' (Zr b5 z :: (b3,.cells codTL 140 true) :: L) O'→h'.cell b3 0 = some (.func (.func 131) #[] #[]) ∧ h'.cell b3 2 = some (.func (.func 133) #[] #[]) ∧ h'.row b5 2 3 = some (crow z.mn) ∧ h'.row b5 5 3 = some (crow z.mx):=fun T=>⟨T.cell 1 rfl rfl,T.cell 1 rfl rfl,(z_at T 0 rfl).mn,(z_at T 0 rfl).mx⟩
 obtain ⟨a0,a1,a2,a3⟩:=F0 S2
 with_reducible repeat (first | (apply qzV; simp (disch:=omega) only [zA,bzS2.1,a0,a1,a2,a3] <;> rfl) | apply qzT | apply qzF | (apply qzB; simp (disch:=omega) only [zA,bzS2.1,a0,a1,a2,a3] <;> rfl))
 rw [callV_fn1]
 with_reducible refine Tl.call' S2 (f131c (k:=k + 29) z.mn h2) fun h3 S3 _=>?_
 obtain ⟨c0,c1,c2,c3⟩:=F0 S3
 rw [callV_fn2]
 refine Tl.bind (f133c (k:=k + 9) z.mn (by omega) S3) ?_
 rintro ⟨v4,h4⟩ S4
 obtain ⟨d0,d1,d2,d3⟩:=F0 S4
 with_reducible repeat (first | (apply qzV; simp (disch:=omega) only [zA,bzS2.1,d0,d1,d2,d3] <;> rfl) | apply qzT | apply qzF | (apply qzB; simp (disch:=omega) only [zA,bzS2.1,d0,d1,d2,d3] <;> rfl))
 rw [callV_fn1]
 with_reducible refine Tl.call' S4 (f131c (k:=k + 29) z.mx h4) fun h5 S5 _=>?_
 obtain ⟨e0,e1,e2,e3⟩:=F0 S5
 rw [callV_fn2]
 refine Tl.bind (f133c (k:=k + 9) z.mx (by rw [List.length_append]; omega) S5) ?_
 rintro ⟨v6,h6⟩ S6
 with_reducible refine Tl.chk ?_ ?_
 ·simp only [ld39,ld134,ld120,Nat.zero_add,a0,a1,a2,a3,c0,c1,c2,c3,d0,d1,d2,d3,e0,e1,e2,e3,Option.map_some,aggC,sameO_some,sameC,sameF,Bool.and_self,Bool.not_true,Bool.or_true,Bool.true_and,Bool.false_or]
 refine ⟨_,rfl,?_⟩
 rw [← List.append_assoc]
 exact S6.drop.drop
theorem lenW (c : CellD) (hc : c.s.size ≤ 2 ^ 20) : (oneW c).length ≤ 2 ^ 21:=by
 unfold oneW
 have:=pvarN_le10 (n:=c.s.size) (by omega)
 rw [List.length_append,bytesN_len]; omega
/-- 'zone'. -/
theorem zoneW_c {k : Nat} {v : Value} {l : List Nat} (z : ZoneD) (hc : z.mn.s.size ≤ 2 ^ 20) (hd : z.mx.s.size ≤ 2 ^ 20) (hl : l.length ≤ 2 ^ 26) (S : Stt prog n0 h0 h L ((v,1,u8rows l) :: O)) :
  Tl (eInv env (k + 31) (.method "shadowbook/segment.zone") #[] #[.iface 148 (.agg codWL.toArray), v, zv z] h) fun r => Stt prog n0 h0 r.2 L ((r.1, 1, u8rows (l ++ (oneW z.mn ++ oneW z.mx))) :: O) := by
 rw [show eInv env (k + 31) (.method "shadowbook/segment.zone") #[] #[.iface 148 (.agg codWL.toArray), v, zv z] h = F270 (eInv env (k + 30)) (k + 30) (.agg codWL.toArray) v (zv z) h from
  (by kernel_rfl : _ = eFun env (k + 30) (eInv env (k + 30)) 270 #[.agg codWL.toArray,v,zv z] h).trans F270_eq]
 unfold F270
 have q1:=lenW z.mn hc
 refine Tl.box' S rfl isW fun b3 h1 S1 _=>?_
 refine Tl.box' S1 rfl isZ fun b5 h2 S2 _=>?_
 have S2 : Stt prog n0 h0 h2 (Zr b5 z :: (b3,.cells codWL 148 true) :: L) ((v,1,u8rows l) :: O):=S2
 have F0 : ∀ {h' : AH} {O' : List OS},Stt prog n0 h0 h' (Zr b5 z :: (b3,.cells codWL 148 true) :: L) O'→h'.cell b3 0 = some (.func (.func 138) #[] #[]) ∧ h'.cell b3 2 = some (.func (.func 140) #[] #[]) ∧ h'.row b5 2 3 = some (crow z.mn) ∧ h'.row b5 5 3 = some (crow z.mx):=fun T=>⟨T.cell 1 rfl rfl,T.cell 1 rfl rfl,(z_at T 0 rfl).mn,(z_at T 0 rfl).mx⟩
 obtain ⟨a0,a1,a2,a3⟩:=F0 S2
 with_reducible repeat (first | (apply qzV; simp (disch:=omega) only [zA,bzS2.1,a0,a1,a2,a3] <;> rfl) | apply qzT | apply qzF | (apply qzB; simp (disch:=omega) only [zA,bzS2.1,a0,a1,a2,a3] <;> rfl))
 rw [callV_fn1]
 with_reducible refine Tl.call' S2 (f138c (k:=k + 29) z.mn h2) fun h3 S3 _=>?_
 obtain ⟨c0,c1,c2,c3⟩:=F0 S3
 rw [callV_fn2]
 refine Tl.bind (f140c (k:=k + 9) z.mn (by omega) (by omega) S3) ?_
 rintro ⟨v4,h4⟩ S4
 obtain ⟨d0,d1,d2,d3⟩:=F0 S4
 with_reducible repeat (first | (apply qzV; simp (disch:=omega) only [zA,bzS2.1,d0,d1,d2,d3] <;> rfl) | apply qzT | apply qzF | (apply qzB; simp (disch:=omega) only [zA,bzS2.1,d0,d1,d2,d3] <;> rfl))
 rw [callV_fn1]
 with_reducible refine Tl.call' S4 (f138c (k:=k + 29) z.mx h4) fun h5 S5 _=>?_
 obtain ⟨e0,e1,e2,e3⟩:=F0 S5
 rw [callV_fn2]
 refine Tl.bind (f140c (k:=k + 9) z.mx (by omega) (by rw [List.length_append]; omega) S5) ?_
 rintro ⟨v6,h6⟩ S6
 with_reducible refine Tl.chk ?_ ?_
 ·simp only [ld39,ld142,ld143,Nat.zero_add,a0,a1,a2,a3,c0,c1,c2,c3,d0,d1,d2,d3,e0,e1,e2,e3,Option.map_some,aggC,sameO_some,sameC,sameF,Bool.and_self,Bool.not_true,Bool.or_true,Bool.true_and,Bool.false_or]
 refine ⟨_,rfl,?_⟩
 rw [← List.append_assoc]
 exact S6.drop.drop
end
end Go.Proofs.YtlbmlncdjkdoaaaGreat.Sh
/- Bytes as texts, held against each other; the first so many. -/
set_option linter.unusedVariables false
set_option linter.unusedSimpArgs false
set_option maxRecDepth 100000
namespace Go.Proofs.YtlbmlncdjkdoaaaGreat.Sh
open Go Go.RowKit Go.Proofs.Ev
open Tryz (prog)
def bzBs:=PLift.up (ai @ld3 (ai @ld5 (@ld93)))
/-- The first so many. -/
theorem Bytes.takeS {h : AH} {v : Value} {l : List Nat} (S : Bytes h v l) {n : Nat} (hn : n ≤ l.length) : ∃ v',(∀ h',pSlice prog 93 v none (some (.int .i64 n)) none h' = some v') ∧ Bytes h v' (l.take n):=by
 have hm : ∀ d : Int,intOr d (some (.int .i64 (n : Int))) = some (n : Int):=fun d=>rfl
 have hm2 : ∀ d : Int,intOr d none = some d:=fun d=>rfl
 rcases S with ⟨rfl,q⟩ | ⟨b,off,cap,own,rfl,h2,L⟩
 ·have : l = []:=by simpa using q
  subst this
  have : n = 0:=by simpa using hn
  subst this
  refine ⟨.slice none 0 0,fun h'=>?_,.inl ⟨rfl,rfl⟩⟩
  unfold pSlice
  simp only [el93,Option.bind_some,sz5,hm,hm2]
  simp
 ·rw [List.length_map] at h2
  refine ⟨.slice (some ⟨b,off,none⟩) n cap,fun h'=>?_,.inr ⟨b,off,cap,own,by simp; omega,by simp; omega,?_⟩⟩
  ·unfold pSlice
   simp only [el93,Option.bind_some,sz5,hm,hm2,List.length_map]
   rw [if_pos ⟨by omega,by omega,by omega,by omega,by simp,by simp⟩]
   simp
  ·have:=L.part 0 n (by omega)
   rw [List.map_take]
   simpa using this
theorem bytesOf_u8 (l : List Nat) : bytesOf (l.map u8v) = some (l.map UInt8.ofNat):=by
 induction l with
 | nil=>rfl
 | cons x l ih=>simp only [List.map_cons,u8v] at ih ⊢; unfold bytesOf; rw [ih]; simp
def strB (l : List Nat) : ByteArray:=⟨(l.map UInt8.ofNat).toArray⟩
theorem strB_inj {l m : List Nat} (hl : ∀ x ∈ l,x < 256) (hm : ∀ x ∈ m,x < 256) (h : strB l = strB m) : l = m:=by
 have h1 : l.map UInt8.ofNat = m.map UInt8.ofNat:=by
  have:=congrArg (fun b=>b.data.toList) h
  simpa [strB] using this
 have key : ∀ l : List Nat,(∀ x ∈ l,x < 256)→(l.map UInt8.ofNat).map UInt8.toNat = l:=fun l hl=>by
  rw [List.map_map]
  conv=>rhs; rw [← List.map_id l]
  refine List.map_congr_left fun x hx=>?_
  simp [hl x hx,Nat.mod_eq_of_lt]
 rw [← key l hl,← key m hm,h1]
theorem convB {h : AH} {v : Value} {l : List Nat} (S : Bytes h v l) : pConv prog 93 9 v h = some (.string (strB l)):=by
 rcases S with ⟨rfl,q⟩ | ⟨b,off,cap,own,rfl,h2,L⟩
 ·have : l = []:=by simpa using q
  subst this
  unfold pConv
  have : plain (.slice none 0 0) = true:=rfl
  simp only [this,if_true,u9,el93,Option.bind_some,u5]
  rfl
 ·unfold pConv
  have : plain (.slice (some ⟨b,off,none⟩) (l.map fun x=>[u8v x]).length cap) = false:=rfl
  simp only [this,Bool.false_eq_true,if_false,u9,el93,u5,List.length_map]
  by_cases hl : l = []
  ·subst hl
   have p0 : plain (.slice (some ⟨b,off,none⟩) ([] : List Nat).length cap) = false:=rfl
   simp only [p0,Bool.false_eq_true,if_false,List.length_nil,if_true]
   rfl
  ·have hne : l.length ≠ 0:=by simpa using hl
   rw [if_neg hne]
   have:=L.flat (by simpa using hl)
   rw [List.length_map,Nat.mul_one,flat_u8] at this
   rw [this]
   simp only [bytesOf_u8,Option.map_some]
   rfl
theorem f148c {k : Nat} {h : AH} {v w : Value} {l m : List Nat} (S : Bytes h v l) (T : Bytes h w m) (hl : ∀ x ∈ l,x < 256) (hm : ∀ x ∈ m,x < 256) : eInv env (k + 1) (.func 148) #[] #[v,w] h = some (.bool (decide (l = m)),h):=by
 have T : Tl (F148 (eInv env k) k v w h) fun r=>r = (.bool (decide (l = m)),h):=by
  unfold F148
  have c1:=convB S
  have c2:=convB T
  have eq : ∀ x y,pBin prog Go.BinOp.eql 9 x y (.string (strB l)) (.string (strB m)) = some (.bool (decide (l = m))):=fun x y=>by
   rw [bin_eql_string]
   congr 2
   by_cases q : l = m
   ·simp [q]
   ·have : ¬ strB l = strB m:=fun h=>q (strB_inj hl hm h)
    simp [q,this]
  with_reducible repeat (first | (apply qzV; simp (disch:=omega) only [zA,bzBs.1,c1,c2,eq] <;> rfl) | apply qzT | apply qzF | (apply qzB; simp (disch:=omega) only [zA,bzBs.1,c1,c2,eq] <;> rfl))
  exact ⟨_,rfl,rfl⟩
 obtain ⟨r,h1,h2⟩:=T
 rw [F148_call,h1,h2]
end Go.Proofs.YtlbmlncdjkdoaaaGreat.Sh
