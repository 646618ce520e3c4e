/- What lies ahead of the law, put together. -/
import Derived.Test.YtlbmlncdjkdoaaaGreatSzM1
import Derived.Test.YtlbmlncdjkdoaaaGreatPack
/- What the functions of the packs' package come to. -/
set_option linter.unusedVariables false
set_option linter.unusedSimpArgs false
set_option maxRecDepth 100000
namespace Go.Proofs.YtlbmlncdjkdoaaaGreat.Sh.Pk
open Go Go.RowKit Go.Proofs.Ev Go.Proofs.YtlbmlncdjkdoaaaGreat.Sh
open Tryz (prog)
def bzPk:=PLift.up (ai @ld3 (ai @ld5 (ai @ld93 (ai @ld121 (ai (fun a h=>conv_int (a:=a) (h:=h) u121 u5) (ai (fun a h=>conv_int (a:=a) (h:=h) u5 u3) (ai (fun ox oy a b=>bin_eql_bool (ox:=ox) (oy:=oy) (a:=a) (b:=b) u4) (ai (fun ox oy a b=>bin_neq_bool (ox:=ox) (oy:=oy) (a:=a) (b:=b) u4) (ai @xor64u (ai @and64u (ai @or64u (ai @or8 (ai @and8 (ai @ld124 ((fun a h=>conv_int (a:=a) (h:=h) u5 u121))))))))))))))))
/-! ### Numbers of 64 bits, bytes -/
def wrow (z : Int) : List Value:=[.int .u64 z]
def brow (z : Int) : List Value:=[.int .u8 z]
def Words (h : AH) (v : Value) (l : List Int) : Prop:=SlV prog h v 1 (l.map wrow)
theorem Words.grow {h h' : AH} {v : Value} {l : List Int} (S : Words h v l) (g : Grow h h') : Words h' v l:=SlV.grow S g
theorem Words.len {h h' : AH} {v : Value} {l : List Int} (S : Words h v l) : pLen prog #[124] v h' = some (.int .i64 l.length):=by
 have:=SlV.len S u124 (h':=h')
 simpa using this
theorem Words.at_ {h : AH} {v : Value} {l : List Int} (S : Words h v l) {i : Nat} {c : Int} (hi : l[i]? = some c) :
  ∃ b o,pIndexAddr prog 124 v (.int .i64 i) = some (.pointer (some ⟨b,o,none⟩)) ∧ h.cell b o = some (.int .u64 c):=by
 obtain ⟨b,o,h1,h2⟩:=SlV.at_ S (t:=124) (k:=.i64) (i:=i) (r:=wrow c) (by simp [hi]) u124 sz121
 exact ⟨b,o,h1,Ev.cell_of_row (j:=0) h2 (by omega)⟩
/-! ### 'Len64' -/
def blf : Nat→Nat→Nat
 | 0,_=>0
 | f + 1,v=>if v = 0 then 0 else blf f (v / 2) + 1
theorem blf_eq (f : Nat) : ∀ v : Nat,v < 2 ^ f→blf f v = bl v:=by
 induction f with
 | zero =>
  intro v h; have : v = 0:=by simpa using h
  subst this; rw [bl_zero]; rfl
 | succ f ih =>
  intro v h
  unfold blf
  by_cases hv : v = 0
  ·rw [if_pos hv,hv,bl_zero]
  ·rw [if_neg hv,bl_pos (by omega),ih (v / 2) (by rw [Nat.pow_succ] at h; omega)]
def tab : Value:=Go.Value.string { data:=#[0,1,2,2,3,3,3,3,4,4,4,4,4,4,4,4,5,5,5,5,5,5,5,5,5,5,5,5,5,5,5,5,6,6,6,6,6,6,6,6,6,6,6,6,6,6,6,6,6,6,6,6,6,6,6,6,6,6,6,6,6,6,6,6,7,7,7,7,7,7,7,7,7,7,7,7,7,7,7,7,7,7,7,7,7,7,7,7,7,7,7,7,7,7,7,7,7,7,7,7,7,7,7,7,7,7,7,7,7,7,7,7,7,7,7,7,7,7,7,7,7,7,7,7,7,7,7,7,8,8,8,8,8,8,8,8,8,8,8,8,8,8,8,8,8,8,8,8,8,8,8,8,8,8,8,8,8,8,8,8,8,8,8,8,8,8,8,8,8,8,8,8,8,8,8,8,8,8,8,8,8,8,8,8,8,8,8,8,8,8,8,8,8,8,8,8,8,8,8,8,8,8,8,8,8,8,8,8,8,8,8,8,8,8,8,8,8,8,8,8,8,8,8,8,8,8,8,8,8,8,8,8,8,8,8,8,8,8,8,8,8,8,8,8,8,8,8,8,8,8,8,8,8,8,8,8] }
theorem tab_at (m : Nat) (hm : m < 256) : pIndex prog 9 tab (.int .u8 (m : Int)) = some (.int .u8 (bl m : Int)):=by
 have hz : ∀ m : Fin 256,((⟨#[0,1,2,2,3,3,3,3,4,4,4,4,4,4,4,4,5,5,5,5,5,5,5,5,5,5,5,5,5,5,5,5,6,6,6,6,6,6,6,6,6,6,6,6,6,6,6,6,6,6,6,6,6,6,6,6,6,6,6,6,6,6,6,6,7,7,7,7,7,7,7,7,7,7,7,7,7,7,7,7,7,7,7,7,7,7,7,7,7,7,7,7,7,7,7,7,7,7,7,7,7,7,7,7,7,7,7,7,7,7,7,7,7,7,7,7,7,7,7,7,7,7,7,7,7,7,7,7,8,8,8,8,8,8,8,8,8,8,8,8,8,8,8,8,8,8,8,8,8,8,8,8,8,8,8,8,8,8,8,8,8,8,8,8,8,8,8,8,8,8,8,8,8,8,8,8,8,8,8,8,8,8,8,8,8,8,8,8,8,8,8,8,8,8,8,8,8,8,8,8,8,8,8,8,8,8,8,8,8,8,8,8,8,8,8,8,8,8,8,8,8,8,8,8,8,8,8,8,8,8,8,8,8,8,8,8,8,8,8,8,8,8,8,8,8,8,8,8,8,8,8,8,8,8,8,8]⟩ : ByteArray)[m.val]?).map (fun b=>b.toNat) = some (blf 8 m.val):=by decide +kernel
 have:=hz ⟨m,hm⟩
 rw [blf_eq 8 m (by simpa using hm)] at this
 unfold tab
 rw [index_string u9 (by omega)]
 simp only [Int.toNat_natCast]
 cases hc : (⟨#[0,1,2,2,3,3,3,3,4,4,4,4,4,4,4,4,5,5,5,5,5,5,5,5,5,5,5,5,5,5,5,5,6,6,6,6,6,6,6,6,6,6,6,6,6,6,6,6,6,6,6,6,6,6,6,6,6,6,6,6,6,6,6,6,7,7,7,7,7,7,7,7,7,7,7,7,7,7,7,7,7,7,7,7,7,7,7,7,7,7,7,7,7,7,7,7,7,7,7,7,7,7,7,7,7,7,7,7,7,7,7,7,7,7,7,7,7,7,7,7,7,7,7,7,7,7,7,7,8,8,8,8,8,8,8,8,8,8,8,8,8,8,8,8,8,8,8,8,8,8,8,8,8,8,8,8,8,8,8,8,8,8,8,8,8,8,8,8,8,8,8,8,8,8,8,8,8,8,8,8,8,8,8,8,8,8,8,8,8,8,8,8,8,8,8,8,8,8,8,8,8,8,8,8,8,8,8,8,8,8,8,8,8,8,8,8,8,8,8,8,8,8,8,8,8,8,8,8,8,8,8,8,8,8,8,8,8,8,8,8,8,8,8,8,8,8,8,8,8,8,8,8,8,8,8,8]⟩ : ByteArray)[m]? with
 | none=>rw [hc] at this; cases this
 | some b =>
  rw [hc] at this
  simp only [Option.map_some,Option.some.injEq] at this ⊢
  rw [this]
theorem f26c {k : Nat} (x : Nat) (hx : x < 18446744073709551616) (h : AH) : eInv env (k + 1) (.func 167) #[] #[.int .u64 x] h = some (.int .i64 (bl x),h):=by
 have T : Tl (F167 (eInv env k) k (.int .u64 x) h) fun r=>r = (.int .i64 (bl x),h):=by
  unfold F167
  -- the last step
  have last : ∀ (y : Nat) (n : Nat),y < 256→n + bl y = bl x→n ≤ 56→Tl (Ev.bnd (pConv prog 121 5 (.int .u64 y) h) fun x21=>Ev.bnd (pIndex prog 9 (Go.Value.string { data:=#[0,1,2,2,3,3,3,3,4,4,4,4,4,4,4,4,5,5,5,5,5,5,5,5,5,5,5,5,5,5,5,5,6,6,6,6,6,6,6,6,6,6,6,6,6,6,6,6,6,6,6,6,6,6,6,6,6,6,6,6,6,6,6,6,7,7,7,7,7,7,7,7,7,7,7,7,7,7,7,7,7,7,7,7,7,7,7,7,7,7,7,7,7,7,7,7,7,7,7,7,7,7,7,7,7,7,7,7,7,7,7,7,7,7,7,7,7,7,7,7,7,7,7,7,7,7,7,7,8,8,8,8,8,8,8,8,8,8,8,8,8,8,8,8,8,8,8,8,8,8,8,8,8,8,8,8,8,8,8,8,8,8,8,8,8,8,8,8,8,8,8,8,8,8,8,8,8,8,8,8,8,8,8,8,8,8,8,8,8,8,8,8,8,8,8,8,8,8,8,8,8,8,8,8,8,8,8,8,8,8,8,8,8,8,8,8,8,8,8,8,8,8,8,8,8,8,8,8,8,8,8,8,8,8,8,8,8,8,8,8,8,8,8,8,8,8,8,8,8,8,8,8,8,8,8,8] }) x21) fun x22=>Ev.bnd (pConv prog 5 3 x22 h) fun x23 =>
    Ev.bnd (pBin prog Go.BinOp.add 3 (Go.Operand.tmp 19) (Go.Operand.tmp 23) (.int .i64 (n : Int)) x23) fun x24=>some (x24,h)) fun r=>r = (.int .i64 (bl x),h):=by
   intro y n hy hn hn2
   have w : IntKind.u8.wrap ((y : Nat) : Int) = ((y : Nat) : Int):=by rw [wrap_u8]; omega
   have hb:=bl_le 8 y (by simpa using hy)
   have w2 : IntKind.i64.wrap ((bl y : Nat) : Int) = ((bl y : Nat) : Int):=by rw [wrap_i64']; split <;> omega
   have w3 : IntKind.i64.wrap ((n : Int) + ((bl y : Nat) : Int)) = ((bl x : Nat) : Int):=by rw [wrap_i64']; split <;> omega
   have t:=tab_at y hy
   unfold tab at t
   repeat (with_reducible apply Tl.val; focus (simp only [zA,Int.reduceBEq,decide_true,decide_false,bzPk.1,w,t,w2,w3] <;> with_reducible rfl))
   exact ⟨_,rfl,rfl⟩
  have s8 : ∀ (y n : Nat),y < 65536→n + bl y = bl x→n ≤ 48→Tl (Ev.bnd (pBin prog Go.BinOp.geq 121 (Go.Operand.tmp 13) (Go.Operand.const (Go.Value.int Go.IntKind.u64 256)) (.int .u64 y) (Go.Value.int Go.IntKind.u64 256)) fun x14 =>
    F167_rlrrr (eInv env k) k (.int .u64 y) (.int .i64 (n : Int)) x14 h fun y0_4 y2_5 y14 h_6=>Ev.bnd (pConv prog 121 5 y0_4 h_6) fun x21=>Ev.bnd (pIndex prog 9 (Go.Value.string { data:=#[0,1,2,2,3,3,3,3,4,4,4,4,4,4,4,4,5,5,5,5,5,5,5,5,5,5,5,5,5,5,5,5,6,6,6,6,6,6,6,6,6,6,6,6,6,6,6,6,6,6,6,6,6,6,6,6,6,6,6,6,6,6,6,6,7,7,7,7,7,7,7,7,7,7,7,7,7,7,7,7,7,7,7,7,7,7,7,7,7,7,7,7,7,7,7,7,7,7,7,7,7,7,7,7,7,7,7,7,7,7,7,7,7,7,7,7,7,7,7,7,7,7,7,7,7,7,7,7,8,8,8,8,8,8,8,8,8,8,8,8,8,8,8,8,8,8,8,8,8,8,8,8,8,8,8,8,8,8,8,8,8,8,8,8,8,8,8,8,8,8,8,8,8,8,8,8,8,8,8,8,8,8,8,8,8,8,8,8,8,8,8,8,8,8,8,8,8,8,8,8,8,8,8,8,8,8,8,8,8,8,8,8,8,8,8,8,8,8,8,8,8,8,8,8,8,8,8,8,8,8,8,8,8,8,8,8,8,8,8,8,8,8,8,8,8,8,8,8,8,8,8,8,8,8,8,8] }) x21) fun x22=>Ev.bnd (pConv prog 5 3 x22 h_6) fun x23 =>
    Ev.bnd (pBin prog Go.BinOp.add 3 (Go.Operand.tmp 19) (Go.Operand.tmp 23) y2_5 x23) fun x24=>some (x24,h_6)) fun r=>r = (.int .i64 (bl x),h):=by
   intro y n hy hn hn2
   unfold F167_rlrrr
   by_cases hc : y < 256
   ·have e : decide ((y : Int) ≥ 256) = false:=by simp; omega
    repeat (with_reducible apply Tl.val; focus (simp only [zA,Int.reduceBEq,decide_true,decide_false,bzPk.1,e] <;> with_reducible rfl))
    with_reducible refine Tl.brF ?_
    exact last y n hc hn (by omega)
   ·have e : decide ((y : Int) ≥ 256) = true:=by simp; omega
    have e8 : min (8 : Int).toNat 64 = 8:=by decide
    have s : Int.fdiv (y : Int) (2 ^ 8) = ((y / 256 : Nat) : Int):=by rw [fdiv_pow _ (by decide)]; omega
    have w : IntKind.i64.wrap ((n : Int) + 8) = ((n + 8 : Nat) : Int):=by rw [wrap_i64']; split <;> omega
    have hb:=bl_shift 8 y (by simp; omega)
    repeat (with_reducible apply Tl.val; focus (simp only [zA,Int.reduceBEq,decide_true,decide_false,bzPk.1,e] <;> with_reducible rfl))
    with_reducible refine Tl.brT ?_
    repeat (with_reducible apply Tl.val; focus (simp only [zA,Int.reduceBEq,decide_true,decide_false,bzPk.1,shr64u (show (0 : Int) ≤ 8 by decide),e8,s,w] <;> with_reducible rfl))
    exact last (y / 256) (n + 8) (by omega) (by simp at hb; omega) (by omega)
  have s16 : ∀ (y n : Nat),y < 4294967296→n + bl y = bl x→n ≤ 32→Tl (Ev.bnd (pBin prog Go.BinOp.geq 121 (Go.Operand.tmp 7) (Go.Operand.const (Go.Value.int Go.IntKind.u64 65536)) (.int .u64 y) (Go.Value.int Go.IntKind.u64 65536)) fun x8 =>
    F167_rlrr (eInv env k) k (.int .u64 y) (.int .i64 (n : Int)) x8 h fun y0_1 y2_2 y8 h_3=>Ev.bnd (pBin prog Go.BinOp.geq 121 (Go.Operand.tmp 13) (Go.Operand.const (Go.Value.int Go.IntKind.u64 256)) y0_1 (Go.Value.int Go.IntKind.u64 256)) fun x14 =>
    F167_rlrrr (eInv env k) k y0_1 y2_2 x14 h_3 fun y0_4 y2_5 y14 h_6=>Ev.bnd (pConv prog 121 5 y0_4 h_6) fun x21=>Ev.bnd (pIndex prog 9 (Go.Value.string { data:=#[0,1,2,2,3,3,3,3,4,4,4,4,4,4,4,4,5,5,5,5,5,5,5,5,5,5,5,5,5,5,5,5,6,6,6,6,6,6,6,6,6,6,6,6,6,6,6,6,6,6,6,6,6,6,6,6,6,6,6,6,6,6,6,6,7,7,7,7,7,7,7,7,7,7,7,7,7,7,7,7,7,7,7,7,7,7,7,7,7,7,7,7,7,7,7,7,7,7,7,7,7,7,7,7,7,7,7,7,7,7,7,7,7,7,7,7,7,7,7,7,7,7,7,7,7,7,7,7,8,8,8,8,8,8,8,8,8,8,8,8,8,8,8,8,8,8,8,8,8,8,8,8,8,8,8,8,8,8,8,8,8,8,8,8,8,8,8,8,8,8,8,8,8,8,8,8,8,8,8,8,8,8,8,8,8,8,8,8,8,8,8,8,8,8,8,8,8,8,8,8,8,8,8,8,8,8,8,8,8,8,8,8,8,8,8,8,8,8,8,8,8,8,8,8,8,8,8,8,8,8,8,8,8,8,8,8,8,8,8,8,8,8,8,8,8,8,8,8,8,8,8,8,8,8,8,8] }) x21) fun x22=>Ev.bnd (pConv prog 5 3 x22 h_6) fun x23 =>
    Ev.bnd (pBin prog Go.BinOp.add 3 (Go.Operand.tmp 19) (Go.Operand.tmp 23) y2_5 x23) fun x24=>some (x24,h_6)) fun r=>r = (.int .i64 (bl x),h):=by
   intro y n hy hn hn2
   unfold F167_rlrr
   by_cases hc : y < 65536
   ·have e : decide ((y : Int) ≥ 65536) = false:=by simp; omega
    repeat (with_reducible apply Tl.val; focus (simp only [zA,Int.reduceBEq,decide_true,decide_false,bzPk.1,e] <;> with_reducible rfl))
    with_reducible refine Tl.brF ?_
    exact s8 y n hc hn (by omega)
   ·have e : decide ((y : Int) ≥ 65536) = true:=by simp; omega
    have e8 : min (16 : Int).toNat 64 = 16:=by decide
    have s : Int.fdiv (y : Int) (2 ^ 16) = ((y / 65536 : Nat) : Int):=by rw [fdiv_pow _ (by decide)]; omega
    have w : IntKind.i64.wrap ((n : Int) + 16) = ((n + 16 : Nat) : Int):=by rw [wrap_i64']; split <;> omega
    have hb:=bl_shift 16 y (by simp; omega)
    repeat (with_reducible apply Tl.val; focus (simp only [zA,Int.reduceBEq,decide_true,decide_false,bzPk.1,e] <;> with_reducible rfl))
    with_reducible refine Tl.brT ?_
    repeat (with_reducible apply Tl.val; focus (simp only [zA,Int.reduceBEq,decide_true,decide_false,bzPk.1,shr64u (show (0 : Int) ≤ 16 by decide),e8,s,w] <;> with_reducible rfl))
    exact s8 (y / 65536) (n + 16) (by omega) (by simp at hb; omega) (by omega)
  unfold F167_rlr
  by_cases hc : x < 4294967296
  ·have e : decide ((x : Int) ≥ 4294967296) = false:=by simp; omega
   repeat (with_reducible apply Tl.val; focus (simp only [zA,Int.reduceBEq,decide_true,decide_false,bzPk.1,e] <;> with_reducible rfl))
   with_reducible refine Tl.brF ?_
   exact s16 x 0 hc (by omega) (by omega)
  ·have e : decide ((x : Int) ≥ 4294967296) = true:=by simp; omega
   have e8 : min (32 : Int).toNat 64 = 32:=by decide
   have s : Int.fdiv (x : Int) (2 ^ 32) = ((x / 4294967296 : Nat) : Int):=by rw [fdiv_pow _ (by decide)]; omega
   have hb:=bl_shift 32 x (by simp; omega)
   repeat (with_reducible apply Tl.val; focus (simp only [zA,Int.reduceBEq,decide_true,decide_false,bzPk.1,e] <;> with_reducible rfl))
   with_reducible refine Tl.brT ?_
   repeat (with_reducible apply Tl.val; focus (simp only [zA,Int.reduceBEq,decide_true,decide_false,bzPk.1,shr64u (show (0 : Int) ≤ 32 by decide),e8,s] <;> with_reducible rfl))
   exact s16 (x / 4294967296) 32 (by omega) (by simp at hb; omega) (by omega)
 obtain ⟨r,h1,h2⟩:=T
 rw [F167_call,h1,h2]
/-! ### 'Width' -/
def orN (l : List Nat) : Nat:=l.foldl (fun a b=>a ||| b) 0
theorem orN_lt : ∀ (l : List Nat) (a : Nat) (w : Nat),l.foldl (fun a b=>a ||| b) a < 2 ^ w ↔ a < 2 ^ w ∧ ∀ x ∈ l,x < 2 ^ w:=by
 intro l
 induction l with
 | nil=>intro a w; simp
 | cons b l ih =>
  intro a w
  rw [List.foldl_cons,ih]
  constructor
  ·rintro ⟨h1,h2⟩
   have ha : a < 2 ^ w:=Nat.lt_of_le_of_lt Nat.left_le_or h1
   have hb : b < 2 ^ w:=Nat.lt_of_le_of_lt Nat.right_le_or h1
   refine ⟨ha,fun x hx=>?_⟩
   rcases List.mem_cons.1 hx with rfl | hx
   ·exact hb
   ·exact h2 x hx
  ·rintro ⟨h1,h2⟩
   exact ⟨Nat.or_lt_two_pow h1 (h2 b (by simp)),fun x hx=>h2 x (by simp [hx])⟩
theorem bl_le_iff (w : Nat) : ∀ v : Nat,bl v ≤ w ↔ v < 2 ^ w:=by
 induction w with
 | zero =>
  intro v
  constructor
  ·intro h
   by_cases hv : v = 0
   ·simp [hv]
   ·rw [bl_pos (by omega)] at h; omega
  ·intro h; exact bl_le 0 v h
 | succ w ih =>
  intro v
  refine ⟨fun h=>?_,bl_le _ v⟩
  by_cases hv : v = 0
  ·rw [hv]; exact Nat.two_pow_pos _
  ·rw [bl_pos (by omega)] at h
   have:=(ih (v / 2)).1 (by omega)
   rw [Nat.pow_succ]; omega
def widthN (l : List Nat) : Nat:=bl (orN l)
theorem width_le (l : List Nat) (w : Nat) : widthN l ≤ w ↔ ∀ x ∈ l,x < 2 ^ w:=by
 unfold widthN orN
 rw [bl_le_iff,orN_lt]
 simp [Nat.two_pow_pos]
theorem or_nat (a b : Nat) (ha : a < 18446744073709551616) (hb : b < 18446744073709551616) : IntKind.u64.wrap (BitVec.ofInt 64 (a : Int) ||| BitVec.ofInt 64 (b : Int)).toNat = ((a ||| b : Nat) : Int):=by
 rw [BitVec.toNat_or,ofInt_toNat _ (by omega) (by omega),ofInt_toNat _ (by omega) (by omega),Int.toNat_natCast,Int.toNat_natCast]
 have : a ||| b < 2 ^ 64:=Nat.or_lt_two_pow (by simpa using ha) (by simpa using hb)
 rw [wrap_u64]
 have h2 : (2 : Nat) ^ 64 = 18446744073709551616:=by decide
 omega
def ints (l : List Nat) : List Int:=l.map (fun (x : Nat)=>(x : Int))
theorem f15_loop {β : Type} {k : Nat} {Q : β→Prop} {h : AH} {v : Value} {l : List Nat} (S : Words h v (ints l)) (hl : l.length ≤ 2 ^ 40) (hw : ∀ x ∈ l,x < 18446744073709551616) {ke0 : Value→Value→Value→Value→Value→AH→Option β} (n : Nat) :
  ∀ {i j a : Nat},i + n = l.length→n < j→a < 18446744073709551616→(∀ y8 y,Tl (ke0 (.int .u64 (((l.drop i).foldl (fun a b=>a ||| b) a : Nat) : Int)) v (.int .i64 l.length) y8 y h) Q) →
   Tl (F119_lrlrr (eInv env k) k j (.int .u64 (a : Int)) v (.int .i64 l.length) (.int .i64 i) h ke0) Q:=by
 induction n with
 | zero =>
  intro i j a hi hj ha hk
  obtain ⟨j,rfl⟩ : ∃ q,j = q + 1:=⟨j - 1,by omega⟩
  simp only [F119_lrlrr]
  have e : decide ((i : Int) < (l.length : Int)) = false:=by simp; omega
  repeat (with_reducible apply Tl.val; focus (simp only [zA,Int.reduceBEq,decide_true,decide_false,bzPk.1,e] <;> with_reducible rfl))
  with_reducible refine Tl.brF ?_
  have:=hk (.int .i64 i) (.bool false)
  rw [List.drop_eq_nil_of_le (by omega)] at this
  exact this
 | succ n ih =>
  intro i j a hi hj ha hk
  obtain ⟨j,rfl⟩ : ∃ q,j = q + 1:=⟨j - 1,by omega⟩
  have hlt : i < l.length:=by omega
  obtain ⟨c,hc⟩ : ∃ c,l[i]? = some c:=⟨_,List.getElem?_eq_getElem hlt⟩
  have hcw:=hw c (List.mem_of_getElem? hc)
  obtain ⟨b,o,hx,h2⟩:=S.at_ (i:=i) (c:=(c : Int)) (by simp [ints,hc])
  simp only [F119_lrlrr]
  have e : decide ((i : Int) < (l.length : Int)) = true:=by simp; omega
  have w1 : IntKind.i64.wrap ((i : Int) + 1) = ((i + 1 : Nat) : Int):=by rw [wrap_i64']; split <;> omega
  have o1:=or_nat a c ha hcw
  repeat (with_reducible apply Tl.val; focus (simp only [zA,Int.reduceBEq,decide_true,decide_false,bzPk.1,e] <;> with_reducible rfl))
  with_reducible refine Tl.brT ?_
  repeat (with_reducible apply Tl.val; focus (simp only [zA,Int.reduceBEq,decide_true,decide_false,bzPk.1,hx,h2,o1,w1] <;> with_reducible rfl))
  have hlt2 : a ||| c < 18446744073709551616:=by
   have:=Nat.or_lt_two_pow (n:=64) (x:=a) (y:=c) (by simpa using ha) (by simpa using hcw)
   simpa using this
  refine ih (by omega) (by omega) hlt2 fun y8 y=>?_
  have:=hk y8 y
  have hd : l.drop i = c :: l.drop (i + 1):=by
   rw [List.drop_eq_getElem_cons hlt]
   rw [List.getElem?_eq_getElem hlt] at hc
   cases hc; rfl
  rw [hd] at this
  exact this
theorem f15c {k : Nat} {h : AH} {v : Value} {l : List Nat} (S : Words h v (ints l)) (hl : l.length ≤ 2 ^ 40) (hw : ∀ x ∈ l,x < 18446744073709551616) (hk : l.length < k + 1) : eInv env (k + 2) (.func 119) #[] #[v] h = some (.int .i64 (widthN l),h):=by
 have T : Tl (F119 (eInv env (k + 1)) (k + 1) v h) fun r=>r = (.int .i64 (widthN l),h):=by
  unfold F119
  have hv : ∀ h',pLen prog #[124] v h' = some (.int .i64 l.length):=fun h'=>by have:=S.len (h':=h'); simpa [ints] using this
  repeat (with_reducible apply Tl.val; focus (simp only [zA,Int.reduceBEq,decide_true,decide_false,bzPk.1,hv] <;> with_reducible rfl))
  refine f15_loop (i:=0) (a:=0) S hl hw l.length (by omega) hk (by omega) fun y8 y=>?_
  rw [List.drop_zero]
  have hor : orN l < 18446744073709551616:=by
   have:=(orN_lt l 0 64).2 ⟨by decide,fun x hx=>by simpa using hw x hx⟩
   simpa [orN] using this
  have f:=f26c (k:=k) (orN l) hor h
  unfold orN at f
  repeat (with_reducible apply Tl.val; focus (simp only [zA,Int.reduceBEq,decide_true,decide_false,bzPk.1,f] <;> with_reducible rfl))
  exact ⟨_,rfl,rfl⟩
 obtain ⟨r,h1,h2⟩:=T
 rw [F119_call,h1,h2]
structure PS where
 out : List Int
 held : Int
 n : Nat
def PS.cnt (s : PS) : Nat:=8 * s.out.length + s.n
def heldS (s : PS) (b : Int) : Int:=IntKind.u8.wrap (BitVec.ofInt 8 s.held ||| BitVec.ofInt 8 (IntKind.u8.wrap (b * 2 ^ (min (s.n : Int).toNat 8)))).toNat
def bitS (s : PS) (b : Int) : PS:=if s.n = 7 then ⟨s.out ++ [heldS s b],0,0⟩ else ⟨s.out,heldS s b,s.n + 1⟩
theorem bitS_cnt {s : PS} {b : Int} (h : s.n < 8) : (bitS s b).cnt = s.cnt + 1 ∧ (bitS s b).n < 8:=by
 unfold bitS PS.cnt
 by_cases q : s.n = 7
 ·rw [if_pos q]; simp; omega
 ·rw [if_neg q]; simp; omega
def pt (b : Nat) : Value:=.pointer (some ⟨b,0,none⟩)
def u8l (l : List Int) : List Value:=l.map fun z=>.int .u8 z
def L4 (bn bh bo bs cap : Nat) (s : PS) (pad : List Value) : List (Nat × AO) :=
 [(bn,.cells [.int .i64 (s.n : Int)] 3 true),(bh,.cells [.int .u8 s.held] 5 true),(bo,.cells [.slice (some ⟨bs,0,none⟩) s.out.length cap] 93 true),(bs,.cells (u8l s.out ++ pad) 5 true)]
def PutSt (n0 : Nat) (h0 h : AH) (bn bh bo bs cap : Nat) (s : PS) : Prop:=∃ pad,s.out.length + pad.length = cap ∧ Sta n0 h0 h (L4 bn bh bo bs cap s pad)
theorem app25 : AppT prog #[93,93] 5 1 1:=⟨by kernel_rfl,⟨5,by kernel_rfl⟩,sz5,by omega,by kernel_rfl,⟨_,ze5,rfl,rfl⟩⟩
theorem bs25 (z : Int) (h : AH) : pBuildSlice prog 93 1 #[(0,.int .u8 z)] h = some (.slice (some ⟨h.n,0,none⟩) 1 1,h.alloc (.cells [.int .u8 z] 5 true)):=by kernel_rfl
/-- A byte more, in place. -/
theorem app_in {h : AH} {bs b1 n cap : Nat} {cs : List Value} {z : Int} (hg : h.get bs = some (.cells cs 5 true)) (hcs : cs.length = cap) (hn : n < cap) (h1 : h.get b1 = some (.cells [.int .u8 z] 5 true)) :
  pAppend prog #[93,93] (.slice (some ⟨bs,0,none⟩) n cap) (.slice (some ⟨b1,0,none⟩) 1 1) h = some (.slice (some ⟨bs,0,none⟩) (n + 1) cap,h.set bs (.cells (splice cs n [.int .u8 z]) 5 true)):=by
 obtain ⟨e',he'⟩:=app25.other
 have hnew : cellsOf prog 1 1 (.slice (some ⟨b1,0,none⟩) 1 1) h = some [.int .u8 z]:=by
  unfold cellsOf
  simp only
  rw [if_neg (by omega),if_pos (by omega),row_of h1]
  rfl
 have hold : ∃ old,cellsOf prog 1 n (.slice (some ⟨bs,0,none⟩) n cap) h = some old:=by
  unfold cellsOf
  simp only
  by_cases q : n * 1 = 0
  ·rw [if_pos q]; exact ⟨_,rfl⟩
  ·rw [if_neg q,if_pos (Nat.le_refl _),row_of hg,if_pos (by omega)]; exact ⟨_,rfl⟩
 obtain ⟨old,hold⟩:=hold
 have hput : h.put bs n [.int .u8 z] = some (h.set bs (.cells (splice cs n [.int .u8 z]) 5 true)):=by
  unfold AH.put
  rw [hg]
  simp only
  rw [if_pos (by simp; omega)]
 unfold pAppend
 rw [app25.elem,he']
 have hle : lenE (.slice (some ⟨b1,0,none⟩) 1 1) = some 1:=rfl
 have hz : ∃ z0,zeroT prog 5 = some z0:=⟨_,ze5⟩
 obtain ⟨z0,hz⟩:=hz
 simp only [isIntT_slice,Bool.false_eq_true,if_false,app25.size,app25.byt,hle,hz,Nat.zero_add,hnew,hold]
 rw [if_pos (by omega)]
 have e1 : ([Value.int .u8 z] : List Value).isEmpty = false:=rfl
 have e2 : ([Value.int .u8 z] : List Value).all oneCell = true:=rfl
 simp only [e1,Bool.false_eq_true,if_false,e2,if_true,Nat.mul_one,hput,Option.map_some]
theorem splice_pad (l : List Int) (p : Value) (pad : List Value) (z : Int) : splice (u8l l ++ p :: pad) l.length [.int .u8 z] = u8l (l ++ [z]) ++ pad:=by
 unfold splice u8l
 have e1 : (l.map (fun z=>Value.int .u8 z) ++ p :: pad).take l.length = l.map fun z=>.int .u8 z:=by
  rw [List.take_append_of_le_length (by simp),List.take_of_length_le (by simp)]
 have e2 : (l.map (fun z=>Value.int .u8 z) ++ p :: pad).drop (l.length + [Value.int IntKind.u8 z].length) = pad:=by
  rw [List.drop_append]; simp
 rw [e1,e2]
 simp
theorem f24 {k : Nat} {n0 : Nat} {h0 h : AH} {bn bh bo bs cap : Nat} {s : PS} (b : Int) (hn : s.n < 8) (hc : s.cnt < 8 * cap) (T : PutSt n0 h0 h bn bh bo bs cap s) :
  Tl (F121 (eInv env k) k (.int .u8 b) (pt bh) (pt bn) (pt bo) h) fun r=>PutSt n0 h0 r.2 bn bh bo bs cap (bitS s b):=by
 obtain ⟨pad,hp,S⟩:=T
 have cn : h.cell bn 0 = some (.int .i64 (s.n : Int)):=(Ev.cell_of (S.mem.at_ (i:=0) rfl)).trans rfl
 have ch : h.cell bh 0 = some (.int .u8 s.held):=(Ev.cell_of (S.mem.at_ (i:=1) rfl)).trans rfl
 have w1 : IntKind.i64.wrap ((s.n : Int) + 1) = ((s.n + 1 : Nat) : Int):=by rw [wrap_i64']; split <;> omega
 unfold F121 pt
 repeat (with_reducible apply Tl.val; focus (simp only [zA,Int.reduceBEq,decide_true,decide_false,bzPk.1,ch,cn,shl8 (show (0 : Int) ≤ (s.n : Int) by omega)] <;> with_reducible rfl))
 refine Tl.store S 1 rfl sz5 rfl rfl (of_decide_eq_true rfl) fun h1 S1=>?_
 have S1 : Sta n0 h0 h1 (L4 bn bh bo bs cap ⟨s.out,heldS s b,s.n⟩ pad):=S1
 have cn1 : h1.cell bn 0 = some (.int .i64 (s.n : Int)):=(Ev.cell_of (S1.mem.at_ (i:=0) rfl)).trans rfl
 repeat (with_reducible apply Tl.val; focus (simp only [zA,Int.reduceBEq,decide_true,decide_false,bzPk.1,cn1,w1] <;> with_reducible rfl))
 refine Tl.store S1 0 rfl sz3 rfl rfl (of_decide_eq_true rfl) fun h2 S2=>?_
 have S2 : Sta n0 h0 h2 (L4 bn bh bo bs cap ⟨s.out,heldS s b,s.n + 1⟩ pad):=S2
 have cn2 : h2.cell bn 0 = some (.int .i64 ((s.n + 1 : Nat) : Int)):=(Ev.cell_of (S2.mem.at_ (i:=0) rfl)).trans rfl
 have ch2 : h2.cell bh 0 = some (.int .u8 (heldS s b)):=(Ev.cell_of (S2.mem.at_ (i:=1) rfl)).trans rfl
 have co2 : h2.cell bo 0 = some (.slice (some ⟨bs,0,none⟩) s.out.length cap):=(Ev.cell_of (S2.mem.at_ (i:=2) rfl)).trans rfl
 by_cases q : s.n = 7
 ·have e : (((s.n + 1 : Nat) : Int) == 8) = true:=by simp; omega
  repeat (with_reducible apply Tl.val; focus (simp only [zA,Int.reduceBEq,decide_true,decide_false,bzPk.1,cn2,e] <;> with_reducible rfl))
  with_reducible refine Tl.brT ?_
  repeat (with_reducible apply Tl.val; focus (simp only [zA,Int.reduceBEq,decide_true,decide_false,bzPk.1,co2,ch2,bs25] <;> with_reducible rfl))
  have S3:=S2.alloc (.cells [.int .u8 (heldS s b)] 5 true)
  have hcap : s.out.length < cap:=by unfold PS.cnt at hc; omega
  obtain ⟨p,pad',rfl⟩ : ∃ p pad',pad = p :: pad':=by
   cases pad with
   | nil=>simp at hp; omega
   | cons p pad'=>exact ⟨p,pad',rfl⟩
  have hg3:=S3.mem.at_ (i:=4) rfl
  have hg0:=S3.mem.at_ (i:=0) rfl
  have ap:=app_in (n:=s.out.length) (cap:=cap) hg3 (by simp [u8l] at hp ⊢; omega) hcap hg0
  simp only at ap
  rw [splice_pad] at ap
  refine Tl.val ap ?_
  have S4:=(S3.set 4 rfl (.cells (u8l (s.out ++ [heldS s b]) ++ pad') 5 true)).drop
  refine Tl.store S4 2 rfl sz93 rfl rfl (of_decide_eq_true rfl) fun h5 S5=>?_
  refine Tl.store S5 1 rfl sz5 rfl rfl (of_decide_eq_true rfl) fun h6 S6=>?_
  refine Tl.store S6 0 rfl sz3 rfl rfl (of_decide_eq_true rfl) fun h7 S7=>?_
  refine ⟨_,rfl,pad',?_,?_⟩
  ·unfold bitS; rw [if_pos q]; simp at hp ⊢; omega
  ·unfold bitS
   rw [if_pos q]
   have : Sta n0 h0 h7 (L4 bn bh bo bs cap ⟨s.out ++ [heldS s b],0,0⟩ pad'):=by
    unfold L4
    simp only [List.length_append,List.length_cons,List.length_nil]
    exact S7
   exact this
 ·have e : (((s.n + 1 : Nat) : Int) == 8) = false:=by simp; omega
  repeat (with_reducible apply Tl.val; focus (simp only [zA,Int.reduceBEq,decide_true,decide_false,bzPk.1,cn2,e] <;> with_reducible rfl))
  with_reducible refine Tl.brF ?_
  refine ⟨_,rfl,pad,?_,?_⟩
  ·unfold bitS; rw [if_neg q]; exact hp
  ·unfold bitS; rw [if_neg q]; exact S2
def bitFn (bh bn bo : Nat) : Value:=.func (.func 121) #[] #[pt bh,pt bn,pt bo]
theorem f24c {k : Nat} {n0 : Nat} {h0 h : AH} {bn bh bo bs cap : Nat} {s : PS} (b : Int) (hn : s.n < 8) (hc : s.cnt < 8 * cap) (T : PutSt n0 h0 h bn bh bo bs cap s) :
  Tl (callV (eInv env (k + 1)) (bitFn bh bn bo) #[.int .u8 b] h) fun r=>PutSt n0 h0 r.2 bn bh bo bs cap (bitS s b):=by
 have e : callV (eInv env (k + 1)) (bitFn bh bn bo) #[.int .u8 b] h = F121 (eInv env k) k (.int .u8 b) (pt bh) (pt bn) (pt bo) h:=by
  have e1 : callV (eInv env (k + 1)) (bitFn bh bn bo) #[.int .u8 b] h = eInv env (k + 1) (.func 121) #[pt bh,pt bn,pt bo] (#[] ++ #[.int .u8 b]) h:=rfl
  rw [e1,inv_cap (E:=env) (f:=121) (by kernel_rfl),show ((#[] ++ #[.int .u8 b]) ++ #[pt bh,pt bn,pt bo] : Array Value) = #[.int .u8 b,pt bh,pt bn,pt bo] by simp]
  exact F121_eq
 rw [e]
 exact f24 b hn hc T
def one64 (v : Int) : Int:=IntKind.u8.wrap (IntKind.u64.wrap (BitVec.ofInt 64 v &&& BitVec.ofInt 64 1).toNat)
def bitsOf : Nat→Int→List Int
 | 0,_=>[]
 | w + 1,v=>one64 v :: bitsOf w (v.fdiv (2 ^ (min (1 : Int).toNat 64)))
theorem bitsOf_len (w : Nat) : ∀ v,(bitsOf w v).length = w:=by
 induction w with
 | zero=>intro v; rfl
 | succ w ih=>intro v; simp [bitsOf,ih]
theorem fold_cnt : ∀ (l : List Int) (s : PS),s.n < 8→(l.foldl bitS s).cnt = s.cnt + l.length ∧ (l.foldl bitS s).n < 8:=by
 intro l
 induction l with
 | nil=>intro s h; exact ⟨by simp,h⟩
 | cons b l ih =>
  intro s h
  obtain ⟨h1,h2⟩:=bitS_cnt (b:=b) h
  obtain ⟨h3,h4⟩:=ih (bitS s b) h2
  rw [List.foldl_cons]
  exact ⟨by rw [h3,h1]; simp; omega,h4⟩
theorem inner {β : Type} {k : Nat} {Q : β→Prop} {n0 : Nat} {h0 : AH} {bn bh bo bs cap w : Nat} {x1 x29 x30 x31 : Value} (hw : w ≤ 64) {ke3 : Value→Value→Value→Value→Value→Value→Value→Value→Value→Value→Value→Value→AH→Option β} (r : Nat) :
  ∀ {i j : Nat} {v : Int} {s : PS} {h : AH},i + r = w→r < j→s.n < 8→s.cnt + r ≤ 8 * cap→PutSt n0 h0 h bn bh bo bs cap s →
   (∀ y11 y36 y37 h',PutSt n0 h0 h' bn bh bo bs cap ((bitsOf r v).foldl bitS s)→Tl (ke3 x1 (pt bo) (pt bh) (pt bn) (bitFn bh bn bo) y11 x29 x30 x31 (.int .i64 w) y36 y37 h') Q) →
   Tl (F88_lrrllrrllrlrrrrrr (eInv env (k + 1)) (k + 1) j x1 (pt bo) (pt bh) (pt bn) (bitFn bh bn bo) (.int .u64 v) x29 x30 x31 (.int .i64 w) (.int .i64 i) h ke3) Q:=by
 induction r with
 | zero =>
  intro i j v s h hi hj hn hc T hk
  obtain ⟨j,rfl⟩ : ∃ q,j = q + 1:=⟨j - 1,by omega⟩
  simp only [F88_lrrllrrllrlrrrrrr]
  have e : decide ((i : Int) < (w : Int)) = false:=by simp; omega
  repeat (with_reducible apply Tl.val; focus (simp only [zA,Int.reduceBEq,decide_true,decide_false,bzPk.1,e] <;> with_reducible rfl))
  with_reducible refine Tl.brF ?_
  exact hk _ _ _ _ T
 | succ r ih =>
  intro i j v s h hi hj hn hc T hk
  obtain ⟨j,rfl⟩ : ∃ q,j = q + 1:=⟨j - 1,by omega⟩
  simp only [F88_lrrllrrllrlrrrrrr]
  have e : decide ((i : Int) < (w : Int)) = true:=by simp; omega
  have w1 : IntKind.i64.wrap ((i : Int) + 1) = ((i + 1 : Nat) : Int):=by rw [wrap_i64']; split <;> omega
  repeat (with_reducible apply Tl.val; focus (simp only [zA,Int.reduceBEq,decide_true,decide_false,bzPk.1,e] <;> with_reducible rfl))
  with_reducible refine Tl.brT ?_
  repeat (with_reducible apply Tl.val; focus (simp only [zA,Int.reduceBEq,decide_true,decide_false,bzPk.1] <;> with_reducible rfl))
  refine Tl.seq (f24c (k:=k) (one64 v) hn (by omega) T) ?_
  rintro ⟨u,h1⟩ T1
  simp only at T1
  obtain ⟨c1,c2⟩:=bitS_cnt (b:=one64 v) hn
  repeat (with_reducible apply Tl.val; focus (simp only [zA,Int.reduceBEq,decide_true,decide_false,bzPk.1,shr64u (show (0 : Int) ≤ 1 by decide),w1] <;> with_reducible rfl))
  refine ih (by omega) (by omega) c2 (by omega) T1 fun y11 y36 y37 h' T'=>?_
  exact hk _ _ _ _ T'
def allBits (w : Nat) (l : List Int) : List Int:=l.flatMap (bitsOf w)
theorem allBits_len (w : Nat) (l : List Int) : (allBits w l).length = l.length * w:=by
 induction l with
 | nil=>simp [allBits]
 | cons v l ih =>
  have : allBits w (v :: l) = bitsOf w v ++ allBits w l:=by simp [allBits]
  rw [this,List.length_append,ih,bitsOf_len,List.length_cons,Nat.succ_mul,Nat.add_comm]
theorem outer {β : Type} {k : Nat} {Q : β→Prop} {h0 : AH} {bn bh bo bs cap w : Nat} {v : Value} {l : List Int} (A : Words h0 v l) (hl : l.length ≤ 2 ^ 30) (hw : w ≤ 64) (hk0 : 66 < k) {ke1 : Value→Value→Value→Value→Value→Value→Value→Value→Value→AH→Option β} (n : Nat) :
  ∀ {i j : Nat} {s : PS} {h : AH},i + n = l.length→n < j→s.n < 8→s.cnt + n * w ≤ 8 * cap→PutSt h0.n h0 h bn bh bo bs cap s →
   (∀ y31 y32 h',PutSt h0.n h0 h' bn bh bo bs cap ((allBits w (l.drop i)).foldl bitS s)→Tl (ke1 (.int .i64 w) (pt bo) (pt bh) (pt bn) (bitFn bh bn bo) v (.int .i64 l.length) y31 y32 h') Q) →
   Tl (F88_lrlrrrrrr (eInv env (k + 1)) (k + 1) j (.int .i64 w) (pt bo) (pt bh) (pt bn) (bitFn bh bn bo) v (.int .i64 l.length) (.int .i64 i) h ke1) Q:=by
 induction n with
 | zero =>
  intro i j s h hi hj hn hc T hk
  obtain ⟨j,rfl⟩ : ∃ q,j = q + 1:=⟨j - 1,by omega⟩
  simp only [F88_lrlrrrrrr]
  have e : decide ((i : Int) < (l.length : Int)) = false:=by simp; omega
  repeat (with_reducible apply Tl.val; focus (simp only [zA,Int.reduceBEq,decide_true,decide_false,bzPk.1,e] <;> with_reducible rfl))
  with_reducible refine Tl.brF ?_
  refine hk _ _ _ ?_
  rw [List.drop_eq_nil_of_le (by omega)]
  exact T
 | succ n ih =>
  intro i j s h hi hj hn hc T hk
  obtain ⟨j,rfl⟩ : ∃ q,j = q + 1:=⟨j - 1,by omega⟩
  have hlt : i < l.length:=by omega
  obtain ⟨c,hcc⟩ : ∃ c,l[i]? = some c:=⟨_,List.getElem?_eq_getElem hlt⟩
  obtain ⟨pad,hp,S⟩:=T
  obtain ⟨b,o,hx,h2⟩:=(A.grow S.done).at_ hcc
  have T : PutSt h0.n h0 h bn bh bo bs cap s:=⟨pad,hp,S⟩
  simp only [F88_lrlrrrrrr]
  have e : decide ((i : Int) < (l.length : Int)) = true:=by simp; omega
  have w1 : IntKind.i64.wrap ((i : Int) + 1) = ((i + 1 : Nat) : Int):=by rw [wrap_i64']; split <;> omega
  rw [Nat.succ_mul] at hc
  repeat (with_reducible apply Tl.val; focus (simp only [zA,Int.reduceBEq,decide_true,decide_false,bzPk.1,e] <;> with_reducible rfl))
  with_reducible refine Tl.brT ?_
  repeat (with_reducible apply Tl.val; focus (simp only [zA,Int.reduceBEq,decide_true,decide_false,bzPk.1,hx,h2] <;> with_reducible rfl))
  refine inner (k:=k) hw w (i:=0) (by omega) (by omega) hn (by omega) T fun y11 y36 y37 h1 T1=>?_
  repeat (with_reducible apply Tl.val; focus (simp only [zA,Int.reduceBEq,decide_true,decide_false,bzPk.1,w1] <;> with_reducible rfl))
  obtain ⟨c1,c2⟩:=fold_cnt (bitsOf w c) s hn
  rw [bitsOf_len] at c1
  refine ih (by omega) (by omega) c2 (by omega) T1 fun y31 y32 h' T'=>?_
  refine hk _ _ _ ?_
  have hd : l.drop i = c :: l.drop (i + 1):=by
   rw [List.drop_eq_getElem_cons hlt]
   rw [List.getElem?_eq_getElem hlt] at hcc
   cases hcc; rfl
  rw [hd]
  have : allBits w (c :: l.drop (i + 1)) = bitsOf w c ++ allBits w (l.drop (i + 1)):=by simp [allBits]
  rw [this,List.foldl_append]
  exact T'
theorem f23c {k : Nat} {n w : Nat} (hn : n ≤ 65536) (hw : w ≤ 64) (h : AH) : eInv env (k + 1) (.func 118) #[] #[.int .i64 n,.int .i64 w] h = some (.bool true,h):=by
 have T : Tl (F118 (eInv env k) k (.int .i64 n) (.int .i64 w) h) fun r=>r = (.bool true,h):=by
  unfold F118
  have e1 : decide ((n : Int) ≥ 0) = true:=by simp
  have e2 : decide ((n : Int) ≤ 65536) = true:=by simp; omega
  have e3 : decide ((w : Int) ≥ 0) = true:=by simp
  have e4 : decide ((w : Int) ≤ 64) = true:=by simp; omega
  repeat (with_reducible apply Tl.val; focus (simp only [zA,Int.reduceBEq,decide_true,decide_false,bzPk.1,e1,e2,e3,e4] <;> with_reducible rfl))
  exact ⟨_,rfl,rfl⟩
 obtain ⟨r,h1,h2⟩:=T
 rw [F118_call,h1,h2]
def sizeN (n w : Nat) : Nat:=(n * w + 7) / 8
theorem f16c {k : Nat} {n w : Nat} (hn : n ≤ 65536) (hw : w ≤ 64) (h : AH) : eInv env (k + 2) (.func 120) #[] #[.int .i64 n,.int .i64 w] h = some (.int .i64 (sizeN n w),h):=by
 have hm : n * w ≤ 65536 * 64:=Nat.mul_le_mul hn hw
 have T : Tl (F120 (eInv env (k + 1)) (k + 1) (.int .i64 n) (.int .i64 w) h) fun r=>r = (.int .i64 (sizeN n w),h):=by
  unfold F120
  have e0:=f23c (k:=k) hn hw h
  have e1 : IntKind.i64.wrap ((n : Int) * (w : Int)) = ((n * w : Nat) : Int):=by
   have : (n : Int) * (w : Int) = ((n * w : Nat) : Int):=by simp
   rw [this,wrap_i64']; split <;> omega
  have e2 : IntKind.i64.wrap (((n * w : Nat) : Int) + 8) = ((n * w + 8 : Nat) : Int):=by rw [wrap_i64']; split <;> omega
  have e3 : IntKind.i64.wrap (((n * w + 8 : Nat) : Int) - 1) = ((n * w + 7 : Nat) : Int):=by rw [wrap_i64']; split <;> omega
  have e4 : IntKind.i64.wrap (((n * w + 7 : Nat) : Int).tdiv 8) = ((sizeN n w : Nat) : Int):=by
   have : ((n * w + 7 : Nat) : Int).tdiv 8 = ((sizeN n w : Nat) : Int):=by
    rw [Int.tdiv_eq_ediv_of_nonneg (by omega)]; unfold sizeN; omega
   have hs : sizeN n w ≤ 600000:=by unfold sizeN; omega
   rw [this,wrap_i64']; split <;> omega
  repeat (with_reducible apply Tl.val; focus (simp only [zA,Int.reduceBEq,decide_true,decide_false,bzPk.1,e0] <;> with_reducible rfl))
  with_reducible refine Tl.brF ?_
  repeat (with_reducible apply Tl.val; focus (simp only [zA,Int.reduceBEq,decide_true,decide_false,bzPk.1,e1,e2,e3,bin_quo (show (8 : Int) ≠ 0 by decide),e4] <;> with_reducible rfl))
  exact ⟨_,rfl,rfl⟩
 obtain ⟨r,h1,h2⟩:=T
 rw [F120_call,h1,h2]
theorem mk25 (S : Nat) (hS : S ≤ 2 ^ 20) (h : AH) : pMakeSlice prog 93 (.int .i64 0) (.int .i64 S) h = some (.slice (some ⟨h.n,0,none⟩) 0 S,h.alloc (.cells (List.replicate S (.int .u8 0)) 5 true)):=by
 have el : elemT prog 93 = some 5:=el93
 unfold pMakeSlice
 rw [el]
 simp only [sz5,app25.byt,ze5]
 rw [if_pos ⟨by omega,by omega,by omega,by omega,rfl,rfl⟩]
 have : (List.replicate (S : Int).toNat (Value.int IntKind.u8 0).cells.toList).flatten = List.replicate S (.int .u8 0):=by
  simp only [Int.toNat_natCast,Value.cells]
  induction S with
  | zero=>rfl
  | succ S ih=>rw [List.replicate_succ,List.flatten_cons,ih (by omega),List.replicate_succ]; rfl
 rw [this]
 simp
def putS (w : Nat) (l : List Int) : List Int:=let s:=(allBits w l).foldl bitS ⟨[],0,0⟩; if s.n > 0 then s.out ++ [s.held] else s.out
theorem flat_u8l (l : List Int) : (l.map brow).flatten = u8l l:=by
 unfold u8l
 induction l with
 | nil=>rfl
 | cons a l ih=>simp only [List.map_cons,List.flatten_cons,ih]; rfl
theorem slX_of {h : AH} {b : Nat} {l : List Int} (hg : h.get b = some (.cells (u8l l) 5 true)) : SlX prog h (.slice (some ⟨b,0,none⟩) l.length l.length) 1 b (l.map brow):=by
 refine ⟨by simp,⟨⟨_,5,hg,fun _=>⟨by simp [u8l],?_⟩⟩,?_⟩,szOk_of hg sz5⟩
 ·rw [flat_u8l,List.drop_zero,List.take_of_length_le (by simp [u8l])]
 ·intro r hr
  obtain ⟨a,_,rfl⟩:=List.mem_map.1 hr
  rfl
/-- 'Put'. -/
theorem f10 {k : Nat} {h : AH} {v : Value} {l : List Nat} {w : Nat} (A : Words h v (ints l)) (hl : l.length ≤ 65536) (hlk : l.length < k + 299) (hw : w ≤ 64) (hx : ∀ x ∈ l,x < 18446744073709551616) :
  Tl (F88 (eInv env (k + 300)) (k + 300) v (.int .i64 w) h) fun r =>
   (w < widthN l ∧ r.1 = .tuple #[.slice none 0 0,.int .i64 3] ∧ Grow h r.2) ∨
   (widthN l ≤ w ∧ ∃ v' b,r.1 = .tuple #[v',.int .i64 0] ∧ SlX prog r.2 v' 1 b ((putS w (ints l)).map brow) ∧ h.n ≤ b ∧ Grow h r.2):=by
 unfold F88
 have hv : ∀ h',pLen prog #[124] v h' = some (.int .i64 l.length):=fun h'=>by have:=A.len (h':=h'); simpa [ints] using this
 have may:=f23c (k:=k + 299) (n:=l.length) (w:=w) (by omega) hw h
 have wid:=f15c (k:=k + 298) A (by omega) hx (by omega)
 have siz:=f16c (k:=k + 298) (n:=l.length) (w:=w) (by omega) hw h
 repeat (with_reducible apply Tl.val; focus (simp only [zA,Int.reduceBEq,decide_true,decide_false,bzPk.1,hv,may] <;> with_reducible rfl))
 with_reducible refine Tl.brF ?_
 cases q : decide ((widthN l : Int) > (w : Int))
 case true =>
  repeat (with_reducible apply Tl.val; focus (simp only [zA,Int.reduceBEq,decide_true,decide_false,bzPk.1,wid,q] <;> with_reducible rfl))
  with_reducible refine Tl.brT ?_
  exact ⟨_,rfl,.inl ⟨by simp at q; omega,rfl,Grow.refl _⟩⟩
 have hle : widthN l ≤ w:=by simp at q; omega
 have hm : l.length * w ≤ 65536 * 64:=Nat.mul_le_mul hl hw
 have hS : sizeN l.length w ≤ 2 ^ 20:=by unfold sizeN; omega
 repeat (with_reducible apply Tl.val; focus (simp only [zA,Int.reduceBEq,decide_true,decide_false,bzPk.1,wid,q] <;> with_reducible rfl))
 with_reducible refine Tl.brF ?_
 repeat (with_reducible apply Tl.val; focus (simp only [zA,Int.reduceBEq,decide_true,decide_false,bzPk.1,hv,siz] <;> with_reducible rfl))
 refine Tl.val (mk25 (sizeN l.length w) hS h) ?_
 have S0:=(Sta.init h).alloc (.cells (List.replicate (sizeN l.length w) (.int .u8 0)) 5 true)
 refine Tl.alloc S0 ze93 rfl fun bo h1 S1 _=>?_
 refine Tl.store S1 0 rfl sz93 rfl rfl (of_decide_eq_true rfl) fun h2 S2=>?_
 refine Tl.alloc S2 ze5 rfl fun bh h3 S3 _=>?_
 refine Tl.alloc S3 ze3 rfl fun bn h4 S4 _=>?_
 refine Tl.store S4 0 rfl sz3 rfl rfl (of_decide_eq_true rfl) fun h5 S5=>?_
 have T5 : PutSt h.n h h5 bn bh bo h.n (sizeN l.length w) ⟨[],0,0⟩:=⟨List.replicate (sizeN l.length w) (.int .u8 0),by simp,S5⟩
 have mf : pMakeFunc (Go.Fn.func 121) #[] #[.pointer (some ⟨bh,0,none⟩),.pointer (some ⟨bn,0,none⟩),.pointer (some ⟨bo,0,none⟩)] = some (bitFn bh bn bo):=rfl
 have hcap : 0 + (ints l).length * w ≤ 8 * sizeN l.length w:=by
  simp only [ints,List.length_map]
  unfold sizeN; omega
 have hll : (ints l).length = l.length:=by simp [ints]
 repeat (with_reducible apply Tl.val; focus (simp only [zA,Int.reduceBEq,decide_true,decide_false,bzPk.1,mf,hv] <;> with_reducible rfl))
 rw [show ((l.length : Nat) : Int) = (((ints l).length : Nat) : Int) by rw [hll]]
 refine outer (k:=k + 299) A (by rw [hll]; omega) hw (by omega) (ints l).length (i:=0) (j:=k + 300) (by omega) (by rw [hll]; omega) (by decide) (by simpa [PS.cnt] using hcap) T5 fun y31 y32 h6 T6=>?_
 rw [List.drop_zero] at T6
 obtain ⟨c1,c2⟩:=fold_cnt (allBits w (ints l)) ⟨[],0,0⟩ (by decide)
 rw [allBits_len,hll] at c1
 have hput : putS w (ints l) = if ((allBits w (ints l)).foldl bitS ⟨[],0,0⟩).n > 0 then ((allBits w (ints l)).foldl bitS ⟨[],0,0⟩).out ++ [((allBits w (ints l)).foldl bitS ⟨[],0,0⟩).held] else ((allBits w (ints l)).foldl bitS ⟨[],0,0⟩).out:=rfl
 generalize (allBits w (ints l)).foldl bitS ⟨[],0,0⟩ = s at T6 c1 c2 hput
 have c1 : 8 * s.out.length + s.n = l.length * w:=by simpa [PS.cnt] using c1
 obtain ⟨pad,hp,S6⟩:=T6
 have cn : h6.cell bn 0 = some (.int .i64 (s.n : Int)):=(Ev.cell_of (S6.mem.at_ (i:=0) rfl)).trans rfl
 have ch : h6.cell bh 0 = some (.int .u8 s.held):=(Ev.cell_of (S6.mem.at_ (i:=1) rfl)).trans rfl
 have co : h6.cell bo 0 = some (.slice (some ⟨h.n,0,none⟩) s.out.length (sizeN l.length w)):=(Ev.cell_of (S6.mem.at_ (i:=2) rfl)).trans rfl
 unfold pt F88_rlrrrrrrr
 by_cases q1 : s.n = 0
 ·have e : decide ((s.n : Int) > 0) = false:=by simp; omega
  repeat (with_reducible apply Tl.val; focus (simp only [zA,Int.reduceBEq,decide_true,decide_false,bzPk.1,cn,e] <;> with_reducible rfl))
  with_reducible refine Tl.brF ?_
  repeat (with_reducible apply Tl.val; focus (simp only [zA,Int.reduceBEq,decide_true,decide_false,bzPk.1,co] <;> with_reducible rfl))
  refine ⟨_,rfl,.inr ⟨hle,_,h.n,rfl,?_,Nat.le_refl _,S6.done⟩⟩
  rw [hput,if_neg (by omega)]
  have hlen : s.out.length = sizeN l.length w:=by unfold sizeN; omega
  have hpad : pad = []:=List.length_eq_zero_iff.1 (by omega)
  have hg:=S6.mem.at_ (i:=3) rfl
  rw [hpad,List.append_nil] at hg
  rw [← hlen]
  exact slX_of hg
 ·have e : decide ((s.n : Int) > 0) = true:=by simp; omega
  repeat (with_reducible apply Tl.val; focus (simp only [zA,Int.reduceBEq,decide_true,decide_false,bzPk.1,cn,e] <;> with_reducible rfl))
  with_reducible refine Tl.brT ?_
  repeat (with_reducible apply Tl.val; focus (simp only [zA,Int.reduceBEq,decide_true,decide_false,bzPk.1,co,ch,bs25] <;> with_reducible rfl))
  have S7:=S6.alloc (.cells [.int .u8 s.held] 5 true)
  have hcap : s.out.length < sizeN l.length w:=by unfold sizeN; omega
  obtain ⟨p,pad',rfl⟩ : ∃ p pad',pad = p :: pad':=by
   cases pad with
   | nil=>simp at hp; omega
   | cons p pad'=>exact ⟨p,pad',rfl⟩
  have hg4:=S7.mem.at_ (i:=4) rfl
  have hg0:=S7.mem.at_ (i:=0) rfl
  have ap:=app_in (n:=s.out.length) (cap:=sizeN l.length w) hg4 (by simp [u8l] at hp ⊢; omega) hcap hg0
  simp only at ap
  rw [splice_pad] at ap
  refine Tl.val ap ?_
  have S8:=(S7.set 4 rfl (.cells (u8l (s.out ++ [s.held]) ++ pad') 5 true)).drop
  refine Tl.store S8 2 rfl sz93 rfl rfl (of_decide_eq_true rfl) fun h9 S9=>?_
  have co9 : h9.cell bo 0 = some (.slice (some ⟨h.n,0,none⟩) (s.out.length + 1) (sizeN l.length w)):=(Ev.cell_of (S9.mem.at_ (i:=2) rfl)).trans rfl
  repeat (with_reducible apply Tl.val; focus (simp only [zA,Int.reduceBEq,decide_true,decide_false,bzPk.1,co9] <;> with_reducible rfl))
  refine ⟨_,rfl,.inr ⟨hle,_,h.n,rfl,?_,Nat.le_refl _,S9.done⟩⟩
  rw [hput,if_pos (by omega)]
  have hlen : s.out.length + 1 = sizeN l.length w:=by unfold sizeN; omega
  have hpad : pad' = []:=List.length_eq_zero_iff.1 (by simp at hp; omega)
  have hg:=S9.mem.at_ (i:=3) rfl
  rw [hpad] at hg
  have hg : h9.get h.n = some (.cells (u8l (s.out ++ [s.held])) 5 true):=by simpa using hg
  have:=slX_of hg
  rw [← hlen]
  simpa using this
theorem ex0 {a b : Value} : pExtract (.tuple #[a,b]) 0 = some a:=by cases a <;> rfl
theorem ex1 {a b : Value} : pExtract (.tuple #[a,b]) 1 = some b:=by cases a <;> rfl
def Bytes (h : AH) (v : Value) (l : List Int) : Prop:=SlV prog h v 1 (l.map brow)
theorem Bytes.len {h h' : AH} {v : Value} {l : List Int} (S : Bytes h v l) : pLen prog #[93] v h' = some (.int .i64 l.length):=by
 have:=SlV.len S u93 (h':=h')
 simpa using this
theorem Bytes.at_ {h : AH} {v : Value} {l : List Int} (S : Bytes h v l) {i : Nat} {c : Int} (hi : l[i]? = some c) :
  ∃ b o,pIndexAddr prog 93 v (.int .i64 i) = some (.pointer (some ⟨b,o,none⟩)) ∧ h.cell b o = some (.int .u8 c):=by
 obtain ⟨b,o,h1,h2⟩:=SlV.at_ S (t:=93) (k:=.i64) (i:=i) (r:=brow c) (by simp [hi]) u93 sz5
 exact ⟨b,o,h1,Ev.cell_of_row (j:=0) h2 (by omega)⟩
/-! ### Joined -/
theorem ints_append (l m : List Nat) : ints (l ++ m) = ints l ++ ints m:=by simp [ints]
theorem one64_nat (v : Nat) (h : v < 18446744073709551616) : one64 (v : Int) = ((v % 2 : Nat) : Int):=by
 unfold one64
 rw [and_one (by omega) (by omega),wrap_u8]
 omega
theorem bitsOf_nat (w : Nat) : ∀ v : Nat,v < 18446744073709551616→bitsOf w (v : Int) = ints (bitsN w v):=by
 induction w with
 | zero=>intro v _; rfl
 | succ w ih =>
  intro v h
  have e1 : min (1 : Int).toNat 64 = 1:=by decide
  have e2 : Int.fdiv (v : Int) (2 ^ 1) = ((v / 2 : Nat) : Int):=by rw [fdiv_pow _ (by decide)]; omega
  unfold bitsOf
  rw [one64_nat v h,e1,e2,ih (v / 2) (by omega)]
  rfl
theorem allBits_nat (w : Nat) : ∀ l : List Nat,(∀ x ∈ l,x < 18446744073709551616)→allBits w (ints l) = ints (l.flatMap (bitsN w)):=by
 intro l
 induction l with
 | nil=>intro _; rfl
 | cons x l ih =>
  intro h
  have e : allBits w (ints (x :: l)) = bitsOf w (x : Int) ++ allBits w (ints l):=by simp [allBits,ints]
  rw [e,bitsOf_nat w x (h x (by simp)),ih fun y hy=>h y (by simp [hy]),List.flatMap_cons,ints_append]
def castS (s : PN) : PS:=⟨ints s.out,(s.held : Int),s.n⟩
theorem or8_nat (a b : Nat) (ha : a < 256) (hb : b < 256) : IntKind.u8.wrap (BitVec.ofInt 8 (a : Int) ||| BitVec.ofInt 8 (b : Int)).toNat = ((a ||| b : Nat) : Int):=by
 have e : ∀ c : Nat,c < 256→(BitVec.ofInt 8 (c : Int)).toNat = c:=fun c hc=>by
  rw [BitVec.toNat_ofInt]
  simp
  omega
 rw [BitVec.toNat_or,e a ha,e b hb]
 have : a ||| b < 2 ^ 8:=Nat.or_lt_two_pow (by simpa using ha) (by simpa using hb)
 rw [wrap_u8]
 have h2 : (2 : Nat) ^ 8 = 256:=by decide
 omega
theorem bit_cast {s : PN} {b : Nat} (hs : s.held < 2 ^ s.n) (h8 : s.n < 8) (hb : b < 2) : bitS (castS s) (b : Int) = castS (bitN s b):=by
 have hp : 2 ^ s.n ≤ 2 ^ 7:=Nat.pow_le_pow_right (by decide) (by omega)
 have h7 : (2 : Nat) ^ 7 = 128:=by decide
 have hbn : b * 2 ^ s.n ≤ 1 * 2 ^ s.n:=Nat.mul_le_mul_right _ (by omega)
 have hh : heldS (castS s) (b : Int) = ((s.held + b * 2 ^ s.n : Nat) : Int):=by
  unfold heldS castS
  simp only
  have e1 : min ((s.n : Int)).toNat 8 = s.n:=by omega
  rw [e1]
  have e2 : IntKind.u8.wrap ((b : Int) * 2 ^ s.n) = ((b * 2 ^ s.n : Nat) : Int):=by
   have : (b : Int) * 2 ^ s.n = ((b * 2 ^ s.n : Nat) : Int):=by simp
   rw [this,wrap_u8]; omega
  rw [e2,or8_nat _ _ (by omega) (by omega),or_disj _ _ _ hs]
 unfold bitS bitN
 rw [hh]
 unfold castS
 simp only
 by_cases q : s.n = 7
 ·rw [if_pos q,if_pos q]
  simp [ints]
 ·rw [if_neg q,if_neg q]
theorem fold_cast : ∀ (S : List Nat) {s : PN} {V k : Nat},(∀ b ∈ S,b < 2)→PNOk s V k→(ints S).foldl bitS (castS s) = castS (S.foldl bitN s):=by
 intro S
 induction S with
 | nil=>intro s V k _ _; rfl
 | cons b S ih =>
  intro s V k hb h
  have e : ints (b :: S) = (b : Int) :: ints S:=rfl
  rw [e,List.foldl_cons,List.foldl_cons,bit_cast h.small h.n8 (hb b (by simp))]
  exact ih (fun x hx=>hb x (by simp [hx])) (bitN_ok h (hb b (by simp)))
theorem putS_nat (w : Nat) (l : List Nat) (hx : ∀ x ∈ l,x < 18446744073709551616) : putS w (ints l) = ints (putN w l):=by
 unfold putS putN
 rw [allBits_nat w l hx]
 have:=fold_cast (l.flatMap (bitsN w)) (s:=⟨[],0,0⟩) (V:=0) (k:=0) (flat_bits_lt w l) ⟨by simp [byN],by simp,by simp,by simp,fun x hx=>by cases hx⟩
 have e0 : castS ⟨[],0,0⟩ = ⟨[],0,0⟩:=rfl
 rw [e0] at this
 rw [this]
 unfold castS
 simp only
 split
 ·simp [ints]
 ·rfl
/-! ### 'at' -/
def mayB (n w : Int) : Bool:=decide (n ≥ 0) && (decide (n ≤ 65536) && (decide (w ≥ 0) && decide (w ≤ 64)))
theorem f23g {k : Nat} (n w : Int) (h : AH) : eInv env (k + 1) (.func 118) #[] #[.int .i64 n,.int .i64 w] h = some (.bool (mayB n w),h):=by
 have T : Tl (F118 (eInv env k) k (.int .i64 n) (.int .i64 w) h) fun r=>r = (.bool (mayB n w),h):=by
  unfold F118 mayB
  cases e1 : decide (n ≥ 0)
  ·repeat (with_reducible apply Tl.val; focus (simp only [zA,Int.reduceBEq,decide_true,decide_false,bzPk.1,ex0,ex1,e1] <;> with_reducible rfl))
   exact ⟨_,rfl,rfl⟩
  cases e2 : decide (n ≤ 65536)
  ·repeat (with_reducible apply Tl.val; focus (simp only [zA,Int.reduceBEq,decide_true,decide_false,bzPk.1,ex0,ex1,e1,e2] <;> with_reducible rfl))
   exact ⟨_,rfl,rfl⟩
  cases e3 : decide (w ≥ 0)
  ·repeat (with_reducible apply Tl.val; focus (simp only [zA,Int.reduceBEq,decide_true,decide_false,bzPk.1,ex0,ex1,e1,e2,e3] <;> with_reducible rfl))
   exact ⟨_,rfl,rfl⟩
  repeat (with_reducible apply Tl.val; focus (simp only [zA,Int.reduceBEq,decide_true,decide_false,bzPk.1,ex0,ex1,e1,e2,e3] <;> with_reducible rfl))
  exact ⟨_,rfl,rfl⟩
 obtain ⟨r,h1,h2⟩:=T
 rw [F118_call,h1,h2]
theorem mayB_nat {n w : Int} (h : mayB n w = true) : ∃ N W : Nat,n = (N : Int) ∧ w = (W : Int) ∧ N ≤ 65536 ∧ W ≤ 64:=by
 unfold mayB at h
 simp only [Bool.and_eq_true,decide_eq_true_eq] at h
 obtain ⟨N,rfl⟩:=Int.eq_ofNat_of_zero_le h.1
 obtain ⟨W,rfl⟩:=Int.eq_ofNat_of_zero_le h.2.2.1
 exact ⟨N,W,rfl,rfl,by omega,by omega⟩
theorem mayB_mk {N W : Nat} (h1 : N ≤ 65536) (h2 : W ≤ 64) : mayB (N : Int) (W : Int) = true:=by
 unfold mayB
 simp only [Bool.and_eq_true,decide_eq_true_eq]
 omega
/-- What 'check' tells. -/
def checkE (bs : List Nat) (n w : Int) : Int:=if mayB n w = false then 2 else if bs.length ≠ sizeN n.toNat w.toNat then 4 else if byN bs / 2 ^ (n.toNat * w.toNat) % 2 ^ (8 * bs.length - n.toNat * w.toNat) ≠ 0 then 4 else 0
/-! ### Appending to a row that a variable holds -/
/-! ### 'Get' -/
/-- A number of the bytes. -/
def digit (w : Nat) (bs : List Nat) (i : Nat) : Nat:=byN bs / 2 ^ (i * w) % 2 ^ w
theorem checkE_zero {bs : List Nat} {n w : Int} (q : checkE bs n w = 0) : ∃ N W : Nat,n = (N : Int) ∧ w = (W : Int) ∧ N ≤ 65536 ∧ W ≤ 64 ∧ bs.length = sizeN N W ∧ byN bs / 2 ^ (N * W) % 2 ^ (8 * bs.length - N * W) = 0:=by
 have qm : mayB n w = true:=by
  unfold checkE at q
  cases hm : mayB n w
  ·rw [if_pos hm] at q; cases q
  ·rfl
 obtain ⟨N,W,rfl,rfl,hN,hW⟩:=mayB_nat qm
 have hs : bs.length = sizeN N W:=by
  unfold checkE at q
  rw [if_neg (by simp [qm])] at q
  by_cases hl : bs.length = sizeN N W
  ·exact hl
  ·rw [if_pos (by simpa using hl)] at q; cases q
 refine ⟨N,W,rfl,rfl,hN,hW,hs,?_⟩
 unfold checkE at q
 rw [if_neg (by simp [qm]),if_neg (by simpa using hs)] at q
 by_cases z : byN bs / 2 ^ (N * W) % 2 ^ (8 * bs.length - N * W) = 0
 ·exact z
 ·rw [if_pos (by simpa using z)] at q; cases q
/-- The numbers that 'Get' tells. -/
def getN (bs : List Nat) (n w : Int) : List Nat:=if checkE bs n w = 0 then digs w.toNat (byN bs) n.toNat else []
theorem slV_kn {P : Program} {h : AH} {v : Value} {n : Nat} {rows : List (List Value)} (S : SlV P h v n rows) : kn v = true ∧ oneCell v = true:=by
 rcases S with ⟨rfl,_⟩ | ⟨b,o,c,own,rfl,_⟩ <;> exact ⟨rfl,rfl⟩
theorem Bytes.kn {h : AH} {v : Value} {l : List Int} (S : Bytes h v l) : kn v = true ∧ oneCell v = true:=slV_kn (P:=prog) (n:=1) (rows:=l.map brow) S
theorem Words.kn {h : AH} {v : Value} {l : List Int} (S : Words h v l) : kn v = true ∧ oneCell v = true:=slV_kn (P:=prog) (n:=1) (rows:=l.map wrow) S
def putE (l : List Nat) (n : Int) : Int:=if mayB l.length n = false then 2 else if widthN l > n.toNat then 3 else 0
def putL (l : List Nat) (n : Int) : List Nat:=if putE l n = 0 then putN n.toNat l else []
theorem f10g {k : Nat} {h : AH} {v : Value} {l : List Nat} (A : Words h v (ints l)) (hl : l.length ≤ 65536) (hlk : l.length < k + 299) (hx : ∀ x ∈ l,x < 18446744073709551616) (n : Int) :
  Tl (eInv env (k + 301) (.func 88) #[] #[v,.int .i64 n] h) fun r=>∃ o,r.1 = .tuple #[o,.int .i64 (putE l n)] ∧ Grow h r.2 ∧ OwnB prog h.n r.2 o 1 ((ints (putL l n)).map brow):=by
 have hv : ∀ h',pLen prog #[124] v h' = some (.int .i64 l.length):=fun h'=>by have:=A.len (h':=h'); simpa [ints] using this
 by_cases q : mayB l.length n = true
 ·obtain ⟨N,w,e0,rfl,hN,hW⟩:=mayB_nat q
  obtain ⟨r,e1,e2⟩:=f10 A hl hlk hW hx
  rw [F88_call]
  refine ⟨r,e1,?_⟩
  unfold putL putE
  rw [q]
  simp only [Int.toNat_natCast,Bool.true_eq_false,if_false]
  rcases e2 with ⟨a,b,c⟩ | ⟨a,v',b,e,X,hb,g⟩
  ·rw [if_pos a]
   exact ⟨_,b,c,.inl ⟨rfl,rfl⟩⟩
  ·rw [if_neg (by omega)]
   refine ⟨_,e,g,.inr ⟨b,hb,?_⟩⟩
   rw [if_pos rfl,← putS_nat w l hx]
   exact X
 ·have q' : mayB l.length n = false:=by simpa using q
  rw [F88_call]
  unfold F88
  have may:=f23g (k:=k + 299) (l.length : Int) n h
  rw [q'] at may
  repeat (with_reducible apply Tl.val; focus (simp only [zA,Int.reduceBEq,decide_true,decide_false,bzPk.1,ex0,ex1,hv,may] <;> with_reducible rfl))
  with_reducible refine Tl.brT ?_
  have pe : putE l n = 2:=by unfold putE; rw [if_pos q']
  refine ⟨_,rfl,.slice none 0 0,by rw [pe],Grow.refl _,?_⟩
  unfold putL
  rw [pe]
  exact .inl ⟨rfl,rfl⟩
/-! ### There and back -/
theorem two64 : (2 : Nat) ^ 64 = 18446744073709551616:=by decide
theorem width64 {l : List Nat} (hx : ∀ x ∈ l,x < 18446744073709551616) : widthN l ≤ 64:=by
 rw [width_le,two64]
 exact hx
theorem putE_of {l : List Nat} {W : Nat} (hl : l.length ≤ 65536) (hW : W ≤ 64) (hw : widthN l ≤ W) : putE l (W : Int) = 0:=by
 unfold putE
 rw [if_neg (by rw [mayB_mk hl hW]; simp),if_neg (by simp only [Int.toNat_natCast]; omega)]
theorem there {l : List Nat} {W : Nat} (hl : l.length ≤ 65536) (hW : W ≤ 64) (hw : widthN l ≤ W) : checkE (putN W l) (l.length : Int) (W : Int) = 0 ∧ getN (putN W l) (l.length : Int) (W : Int) = l:=by
 obtain ⟨s1,s2,s3⟩:=putN_spec W l
 have c : checkE (putN W l) (l.length : Int) (W : Int) = 0:=by
  unfold checkE
  simp only [Int.toNat_natCast]
  rw [if_neg (by rw [mayB_mk hl hW]; simp),if_neg (by rw [s2]; simp [sizeN]),s1]
  have z:=Nat.div_eq_of_lt (woN_lt W l)
  simp [z]
 refine ⟨c,?_⟩
 unfold getN
 rw [if_pos c,s1]
 simp only [Int.toNat_natCast]
 exact digs_woN W l ((width_le l W).1 hw)
theorem back {bs : List Nat} {n w : Int} (hb : ∀ x ∈ bs,x < 256) (q : checkE bs n w = 0) : ∃ N W : Nat,n = (N : Int) ∧ w = (W : Int) ∧ N ≤ 65536 ∧ W ≤ 64 ∧ (getN bs n w).length = N ∧ widthN (getN bs n w) ≤ W ∧ putN W (getN bs n w) = bs:=by
 obtain ⟨N,W,rfl,rfl,hN,hW,hs,hz⟩:=checkE_zero q
 have hg : getN bs (N : Int) (W : Int) = digs W (byN bs) N:=by
  unfold getN
  rw [if_pos q]
  simp
 rw [hg]
 refine ⟨N,W,rfl,rfl,hN,hW,digs_len _ _ _,(width_le _ _).2 (digs_lt _ _ _),?_⟩
 have hlt : byN bs < 2 ^ (8 * bs.length):=by
  have:=byN_lt bs hb
  rw [show (256 : Nat) = 2 ^ 8 by decide,← Nat.pow_mul] at this
  exact this
 have hNW : N * W ≤ 8 * bs.length:=by unfold sizeN at hs; omega
 have hlt2 : byN bs / 2 ^ (N * W) < 2 ^ (8 * bs.length - N * W):=by
  rw [Nat.div_lt_iff_lt_mul (Nat.two_pow_pos _),← Nat.pow_add]
  rw [show 8 * bs.length - N * W + N * W = 8 * bs.length by omega]
  exact hlt
 rw [Nat.mod_eq_of_lt hlt2] at hz
 have hlt3 : byN bs < 2 ^ (N * W):=by
  rcases Nat.div_eq_zero_iff.1 hz with h | h
  ·exact absurd h (Nat.pos_iff_ne_zero.1 (Nat.two_pow_pos _))
  ·exact h
 obtain ⟨s1,s2,s3⟩:=putN_spec W (digs W (byN bs) N)
 rw [digs_len] at s2
 refine byN_inj _ _ s3 hb (by rw [s2,hs]; rfl) ?_
 rw [s1,woN_digs W N _ hlt3]
end Go.Proofs.YtlbmlncdjkdoaaaGreat.Sh.Pk
/- Packs' contracts in the state of their caller; numbers as words. -/
set_option linter.unusedVariables false
set_option linter.unusedSimpArgs false
set_option maxRecDepth 100000
namespace Go.Proofs.YtlbmlncdjkdoaaaGreat.Sh
open Go Go.RowKit Go.Proofs.Ev
open Tryz (prog)
def u64v (x : Nat) : Value:=.int .u64 (x : Int)
def u64rows (l : List Nat) : List (List Value):=l.map fun x=>[u64v x]
def Words (h : AH) (v : Value) (l : List Nat) : Prop:=Sl1 prog h v u64v l
theorem u64rows_len (l : List Nat) : (u64rows l).length = l.length:=List.length_map ..
theorem pk_wrow (l : List Nat) : (Pk.ints l).map Pk.wrow = u64rows l:=by
 unfold Pk.ints u64rows
 rw [List.map_map]; rfl
theorem pk_brow (l : List Nat) : (Pk.ints l).map Pk.brow = u8rows l:=by
 unfold Pk.ints u8rows
 rw [List.map_map]; rfl
theorem Words.pk {h : AH} {v : Value} {l : List Nat} (W : Words h v l) : Pk.Words h v (Pk.ints l):=by
 unfold Pk.Words
 rw [pk_wrow]; exact W
theorem Bytes.pk {h : AH} {v : Value} {l : List Nat} (B : Bytes h v l) : Pk.Bytes h v (Pk.ints l):=by
 unfold Pk.Bytes
 rw [pk_brow]; exact B
theorem f88c {k : Nat} {h : AH} {v : Value} {l : List Nat} (A : Words h v l) (hl : l.length ≤ 65536) (hlk : l.length < k + 299) (hx : ∀ x ∈ l,x < 18446744073709551616) (n : Int) :
  Tl (eInv env (k + 301) (.func 88) #[] #[v,.int .i64 n] h) fun r=>∃ o,r.1 = .tuple #[o,.int .i64 (Pk.putE l n)] ∧ Grow h r.2 ∧ OwnB prog h.n r.2 o 1 (u8rows (Pk.putL l n)):=by
 have:=Pk.f10g (k:=k) A.pk hl hlk hx n
 rw [pk_brow] at this
 exact this
end Go.Proofs.YtlbmlncdjkdoaaaGreat.Sh
/- What the functions of the ints' package come to: 'Plain', 'Runs', 'Packed'. -/
set_option linter.unusedVariables false
set_option linter.unusedSimpArgs false
set_option maxRecDepth 100000
namespace Go.Proofs.YtlbmlncdjkdoaaaGreat.Sh
open Go Go.RowKit Go.Proofs.Ev
open Tryz (prog)
def bzIa:=PLift.up (ai @ld3 (ai @ld2 (ai @ld4 (ai @ld5 (ai @ld121 (ai @ld93 (ai @ld163 (ai @ld124 (ai (fun a h=>conv_int (a:=a) (h:=h) u3 u121) (ai (fun a h=>conv_int (a:=a) (h:=h) u2 u121) (ai (fun a h=>conv_int (a:=a) (h:=h) u121 u5) (ai (fun a h=>conv_int (a:=a) (h:=h) u121 u2) (ai (fun a h=>conv_int (a:=a) (h:=h) u3 u5) (ai @ex2_0 (@ex2_1)))))))))))))))
def i6v (z : Int) : Value:=.int .i64 z
def Ints (h : AH) (v : Value) (l : List Int) : Prop:=Sl1 prog h v i6v l
def i6rows (l : List Int) : List (List Value):=l.map fun z=>[i6v z]
def i64ok (z : Int) : Prop:=-9223372036854775808 ≤ z ∧ z ≤ 9223372036854775807
/-- A number with a sign as one without. -/
def toU (z : Int) : Nat:=(z % 18446744073709551616).toNat
theorem toU_lt (z : Int) : toU z < 18446744073709551616:=by unfold toU; omega
theorem wrapU (z : Int) : IntKind.u64.wrap z = (toU z : Int):=by rw [wrap_u64]; unfold toU; omega
theorem dropc {α : Type} {l : List α} {i : Nat} {x : α} (h : l[i]? = some x) : l.drop i = x :: l.drop (i + 1):=by
 have hlt : i < l.length:=(List.getElem?_eq_some_iff.1 h).1
 rw [List.drop_eq_getElem_cons hlt]
 rw [List.getElem?_eq_getElem hlt] at h
 cases h; rfl
/-! ### Eight bytes, put -/
theorem shrK (x i : Nat) (hi : i < 8) : ∀ t a b,pBin prog Go.BinOp.shr t a b (.int .u64 (x : Int)) (.int .i64 (8 * (i : Int))) = some (.int .u64 ((x / 2 ^ (8 * i) : Nat) : Int)):=fun t a b=>by
 rw [shr_nn (by omega)]
 have e1 : min ((8 * (i : Int))).toNat IntKind.u64.bits = 8 * i:=by
  have : IntKind.u64.bits = 64:=rfl
  rw [this]; omega
 rw [e1,Int.fdiv_eq_ediv_of_nonneg _ (by exact_mod_cast Nat.zero_le _)]
 simp
theorem f125_loop {β : Type} {k : Nat} {Q : β→Prop} {n0 : Nat} {h0 : AH} {L : List (Nat × AO)} {O : List OS} {x : Nat} {ke0 : Value→Value→Value→Value→Value→AH→Option β} (r : Nat) :
  ∀ {i j : Nat} {h : AH} {v : Value} {l : List Nat},i + r = 8→r < j→l.length + r ≤ 2 ^ 30→Stt prog n0 h0 h L ((v,1,u8rows l) :: O) →
   (∀ h' v' y16 y,Stt prog n0 h0 h' L ((v',1,u8rows (l ++ le x i r)) :: O)→Tl (ke0 v' (.int .u64 x) (.int .i64 8) y16 y h') Q) →
   Tl (F125_lrlrr (eInv env k) k j v (.int .u64 (x : Int)) (.int .i64 8) (.int .i64 (i : Int)) h ke0) Q:=by
 induction r with
 | zero =>
  intro i j h v l hi hj hl S hk
  obtain ⟨j,rfl⟩ : ∃ q,j = q + 1:=⟨j - 1,by omega⟩
  simp only [F125_lrlrr]
  with_reducible repeat (first | (apply qzV; simp (disch:=omega) only [zA,bzIa.1] <;> rfl) | apply qzT | apply qzF | apply qzG | ((first | apply qzB | apply qzC); simp (disch:=omega) only [zA,bzIa.1] <;> rfl))
  exact hk _ _ _ _ (by simpa [le] using S)
 | succ r ih =>
  intro i j h v l hi hj hl S hk
  obtain ⟨j,rfl⟩ : ∃ q,j = q + 1:=⟨j - 1,by omega⟩
  have wb : IntKind.u8.wrap ((x / 2 ^ (8 * i) : Nat) : Int) = ((x / 2 ^ (8 * i) % 256 : Nat) : Int):=by rw [wrap_u8]; omega
  have e : (i : Int) + 1 = ((i + 1 : Nat) : Int):=by omega
  simp only [F125_lrlrr]
  with_reducible repeat (first | (apply qzV; simp (disch:=omega) only [zA,bzIa.1,shrK x i (by omega),wb] <;> rfl) | apply qzT | apply qzF | apply qzG | ((first | apply qzB | apply qzC); simp (disch:=omega) only [zA,bzIa.1,shrK x i (by omega),wb] <;> rfl))
  refine Tl.push S 0 rfl app93 (bs93 _ _) rfl rfl (by rw [u8rows_len]; omega) fun v' h' S'=>?_
  with_reducible repeat (first | (apply qzV; simp (disch:=omega) only [zA,bzIa.1] <;> rfl) | apply qzT | apply qzF | apply qzG | ((first | apply qzB | apply qzC); simp (disch:=omega) only [zA,bzIa.1] <;> rfl))
  rw [e]
  refine ih (l:=l ++ [x / 2 ^ (8 * i) % 256]) (by omega) (by omega) (by simp; omega) (by simpa [u8rows,u8v] using S') fun h2 v2 y16 y S2=>hk h2 v2 y16 y ?_
  rw [le]
  simpa using S2
theorem f125c {k : Nat} {n0 : Nat} {h0 h : AH} {L : List (Nat × AO)} {O : List OS} {v : Value} {l : List Nat} (x : Nat) (hl : l.length ≤ 2 ^ 29) (S : Stt prog n0 h0 h L ((v,1,u8rows l) :: O)) :
  Tl (eInv env (k + 20) (.func 125) #[] #[v,.int .u64 (x : Int),.int .i64 8] h) fun r=>Stt prog n0 h0 r.2 L ((r.1,1,u8rows (l ++ le x 0 8)) :: O):=by
 rw [F125_call]
 unfold F125
 with_reducible repeat (first | (apply qzV; simp (disch:=omega) only [zA,bzIa.1] <;> rfl) | apply qzT | apply qzF | apply qzG | ((first | apply qzB | apply qzC); simp (disch:=omega) only [zA,bzIa.1] <;> rfl))
 refine f125_loop (k:=k + 19) 8 (i:=0) (by omega) (by omega) (by omega) S fun h' v' y16 y S'=>?_
 exact ⟨_,rfl,S'⟩
/-! ### A form's head -/
def headB (f n : Nat) : List Nat:=f :: pvarN n
theorem f212c {k : Nat} {n0 : Nat} {h0 h : AH} {L : List (Nat × AO)} {O : List OS} {f n : Nat} (hn : n ≤ 100000) (S : Stt prog n0 h0 h L O) :
  Tl (eInv env (k + 21) (.func 212) #[] #[.int .u8 (f : Int),.int .i64 (n : Int)] h) fun r=>Stt prog n0 h0 r.2 L ((r.1,1,u8rows (headB f n)) :: O):=by
 rw [F212_call]
 unfold F212
 with_reducible repeat (first | (apply qzV; simp (disch:=omega) only [zA,bzIa.1,bs93] <;> rfl) | apply qzT | apply qzF | (apply qzB; simp (disch:=omega) only [zA,bzIa.1,bs93] <;> rfl))
 have S1 : Stt prog n0 h0 (h.alloc (.cells (u8rows [f]).flatten 5 true)) ((h.n,.cells (u8rows [f]).flatten 5 true) :: L) O:=S.alloc _
 have S2:=S1.absorb (n:=1) (u8v_wide [f]) sz5
 have T:=f86c (k:=k) (l:=[f]) n (by omega) (by simp) S2
 exact Tl.bind T fun r hr=>⟨_,rfl,hr⟩
/-! ### 'Plain' -/
def plainB (l : List Int) : List Nat:=headB 1 l.length ++ l.flatMap fun z=>le (toU z) 0 8
theorem flat8_len (l : List Int) : (l.flatMap fun z=>le (toU z) 0 8).length = 8 * l.length:=by
 induction l with
 | nil=>rfl
 | cons z l ih=>simp [ih,le_len]; omega
theorem f192_loop {β : Type} {k : Nat} {Q : β→Prop} {h0 : AH} {v : Value} {l : List Int} (A : Ints h0 v l) (hl : l.length ≤ 5000) {ke0 : Value→Value→Value→Value→Value→AH→Option β} (n : Nat) :
  ∀ {i j : Nat} {h : AH} {ov : Value} {done : List Nat},i + n = l.length→n < j→done.length ≤ 20 + 8 * i→Stt prog h0.n h0 h [] [(ov,1,u8rows done)] →
   (∀ h' ov' y y',Stt prog h0.n h0 h' [] [(ov',1,u8rows (done ++ (l.drop i).flatMap fun z=>le (toU z) 0 8))]→Tl (ke0 ov' v (.int .i64 l.length) y y' h') Q) →
   Tl (F192_lrlrrr (eInv env (k + 20)) (k + 20) j ov v (.int .i64 l.length) (.int .i64 i) h ke0) Q:=by
 induction n with
 | zero =>
  intro i j h ov done hi hj hd S hk
  obtain ⟨j,rfl⟩ : ∃ q,j = q + 1:=⟨j - 1,by omega⟩
  simp only [F192_lrlrrr]
  with_reducible repeat (first | (apply qzV; simp (disch:=omega) only [zA,bzIa.1] <;> rfl) | apply qzT | apply qzF | (apply qzB; simp (disch:=omega) only [zA,bzIa.1] <;> rfl))
  refine hk _ _ _ _ ?_
  rw [List.drop_eq_nil_of_le (by omega)]
  simpa using S
 | succ n ih =>
  intro i j h ov done hi hj hd S hk
  obtain ⟨j,rfl⟩ : ∃ q,j = q + 1:=⟨j - 1,by omega⟩
  obtain ⟨x,hx⟩ : ∃ x,l[i]? = some x:=⟨_,List.getElem?_eq_getElem (by omega)⟩
  obtain ⟨b,o,hp,hc1⟩:=Sl1.at_ A (t:=163) (k:=.i64) hx u163 sz2
  have hc1:=hc1 h S.grow
  have e : (i : Int) + 1 = ((i + 1 : Nat) : Int):=by omega
  simp only [F192_lrlrrr]
  with_reducible repeat (first | (apply qzV; simp (disch:=omega) only [zA,bzIa.1,hp,hc1,i6v,wrapU] <;> rfl) | apply qzT | apply qzF | (apply qzB; simp (disch:=omega) only [zA,bzIa.1,hp,hc1,i6v,wrapU] <;> rfl))
  refine Tl.bind (f125c (k:=k) (toU x) (by omega) S) ?_
  rintro ⟨ov2,h2⟩ S2
  simp only at S2
  with_reducible repeat (first | (apply qzV; simp (disch:=omega) only [zA,bzIa.1] <;> rfl) | apply qzT | apply qzF | (apply qzB; simp (disch:=omega) only [zA,bzIa.1] <;> rfl))
  rw [e]
  refine ih (by omega) (by omega) (by simp [le_len]; omega) S2 fun h3 ov3 y y' S3=>hk h3 ov3 y y' ?_
  rw [dropc hx]
  simpa using S3
theorem f192c {k : Nat} {h : AH} {v : Value} {l : List Int} (A : Ints h v l) (hl : l.length ≤ 4096) (hk : l.length < k) :
  Tl (eInv env (k + 30) (.func 192) #[] #[v] h) fun r=>∃ o,r.1 = .tuple #[o,.int .i64 0] ∧ Grow h r.2 ∧ OwnB prog h.n r.2 o 1 (u8rows (plainB l)):=by
 rw [F192_call]
 unfold F192
 have hv : ∀ h',pLen prog #[163] v h' = some (.int .i64 l.length):=fun h'=>Sl1.len A u163
 have h10:=pvarN_le10 (n:=l.length) (by omega)
 with_reducible repeat (first | (apply qzV; simp (disch:=omega) only [zA,bzIa.1,hv] <;> rfl) | apply qzT | apply qzF | (apply qzB; simp (disch:=omega) only [zA,bzIa.1,hv] <;> rfl))
 refine Tl.bind (f212c (k:=k + 8) (f:=1) (n:=l.length) (by omega) (Stt.init h)) ?_
 rintro ⟨ov,h1⟩ S1
 simp only at S1
 with_reducible repeat (first | (apply qzV; simp (disch:=omega) only [zA,bzIa.1,hv] <;> rfl) | apply qzT | apply qzF | (apply qzB; simp (disch:=omega) only [zA,bzIa.1,hv] <;> rfl))
 refine f192_loop (k:=k + 9) A (by omega) l.length (i:=0) (by omega) (by omega) (by unfold headB; simp; omega) S1 fun h' ov' y y' S'=>?_
 exact ⟨_,rfl,_,rfl,S'.grow,S'.ret 0 rfl⟩
/-! ### 'Runs' -/
def rli (b : Int) (n : Nat) : List Int→List (Nat × Int)
 | []=>[(n,b)]
 | c :: l=>if c = b then rli b (n + 1) l else (n,b) :: rli c 1 l
def runsI : List Int→List (Nat × Int)
 | []=>[]
 | b :: l=>rli b 1 l
def runB (r : Nat × Int) : List Nat:=pvarN r.1 ++ le (toU r.2) 0 8
def runsB (l : List Int) : List Nat:=headB 2 l.length ++ (runsI l).flatMap runB
theorem f194_loop {β : Type} {k : Nat} {Q : β→Prop} {h0 : AH} {v : Value} {l : List Int} (A : Ints h0 v l) (hl : l.length ≤ 5000) {ke0 : Value→Value→Value→Value→Value→Value→AH→Option β} (n : Nat) :
  ∀ {i j frm : Nat} {h : AH} {ov : Value} {rs : List (Nat × Int)} {hd : List Nat},i + n = l.length→n < j→frm ≤ i→hd.length ≤ 20→((rs.flatMap runB).length ≤ 18 * i)→(n = 0→rs = runsI l) →
   (∀ x,l[i]? = some x→l[frm]? = some x ∧ rs ++ rli x (i + 1 - frm) (l.drop (i + 1)) = runsI l) →
   Stt prog h0.n h0 h [] [(ov,1,u8rows (hd ++ rs.flatMap runB))] →
   (∀ h' ov' y y' y'',Stt prog h0.n h0 h' [] [(ov',1,u8rows (hd ++ (runsI l).flatMap runB))]→Tl (ke0 v ov' y (.int .i64 l.length) y' y'' h') Q) →
   Tl (F194_lrlrrrrlr (eInv env (k + 20)) (k + 20) j v ov (.int .i64 frm) (.int .i64 l.length) (.int .i64 i) h ke0) Q:=by
 induction n with
 | zero =>
  intro i j frm h ov rs hd hi hj hf hhd hrs h0' hx S hk
  obtain ⟨j,rfl⟩ : ∃ q,j = q + 1:=⟨j - 1,by omega⟩
  simp only [F194_lrlrrrrlr]
  with_reducible repeat (first | (apply qzV; simp (disch:=omega) only [zA,bzIa.1] <;> rfl) | apply qzT | apply qzF | apply qzH | ((first | apply qzB | apply qzD); simp (disch:=omega) only [zA,bzIa.1] <;> rfl))
  rw [h0' rfl] at S
  exact hk _ _ _ _ _ S
 | succ n ih =>
  intro i j frm h ov rs hd hi hj hf hhd hrs h0' hx S hk
  obtain ⟨j,rfl⟩ : ∃ q,j = q + 1:=⟨j - 1,by omega⟩
  obtain ⟨x,ex⟩ : ∃ x,l[i]? = some x:=⟨_,List.getElem?_eq_getElem (by omega)⟩
  obtain ⟨efx,hx1⟩:=hx x ex
  obtain ⟨b,o,hp,hc⟩:=Sl1.at_ A (t:=163) (k:=.i64) ex u163 sz2
  obtain ⟨bf,of,hpf,hcf⟩:=Sl1.at_ A (t:=163) (k:=.i64) efx u163 sz2
  have hlen : ∀ h',pLen prog #[163] v h' = some (.int .i64 l.length):=fun h'=>Sl1.len A u163
  have e : (i : Int) + 1 = ((i + 1 : Nat) : Int):=by omega
  have em : ((i + 1 : Nat) : Int) - (frm : Int) = ((i + 1 - frm : Nat) : Int):=by omega
  have h10:=pvarN_le10 (n:=i + 1 - frm) (by omega)
  -- what is put
  have step : ∀ (hnext : n = 0→rs ++ [(i + 1 - frm,x)] = runsI l) (hx' : ∀ y,l[i + 1]? = some y→(rs ++ [(i + 1 - frm,x)]) ++ rli y 1 (l.drop (i + 2)) = runsI l) (Kt : Value→AH→Option β)
    (hKt : ∀ ov' h',Kt ov' h' = F194_lrlrrrrlr (eInv env (k + 20)) (k + 20) j v ov' (.int .i64 ((i + 1 : Nat) : Int)) (.int .i64 l.length) (.int .i64 ((i + 1 : Nat) : Int)) h' ke0),
    Tl (Ev.bnd (eInv env (k + 20) (.func 86) #[] #[ov,.int .u64 ((i + 1 - frm : Nat) : Int)] h) fun x41 =>
     Ev.bnd (pIndexAddr prog 163 v (.int .i64 (i : Int))) fun x44 =>
     Ev.bnd (pLoad prog 2 x44 x41.2) fun x45 =>
     Ev.bnd (pConv prog 2 121 x45 x41.2) fun x46 =>
     Ev.bnd (eInv env (k + 20) (.func 125) #[] #[x41.1,x46,.int .i64 8] x41.2) fun x47 =>
     chkK ((!true || !true || (sameO (pLoad prog 2 x44 h) x45 && sameO (pLoad prog 2 x44 x41.2) x45)) && ((!true || !true || (sameO (pConv prog 2 121 x45 h) x46 && sameO (pConv prog 2 121 x45 x41.2) x46)) && true)) <|
     Kt x47.1 x47.2) Q:=by
   intro hnext hx' Kt hKt
   refine Tl.bind (f86c (k:=k) (i + 1 - frm) (by omega) (by simp only [List.length_append]; omega) S) ?_
   rintro ⟨ov2,h2⟩ S2
   simp only at S2
   have hc2:=hc h2 S2.grow
   have hc0:=hc h S.grow
   with_reducible repeat (first | (apply qzV; simp (disch:=omega) only [zA,bzIa.1,hp,hc2,i6v,wrapU] <;> rfl) | apply qzT | apply qzF | apply qzH | ((first | apply qzB | apply qzD); simp (disch:=omega) only [zA,bzIa.1,hp,hc2,i6v,wrapU] <;> rfl))
   refine Tl.bind (f125c (k:=k) (toU x) (by simp only [List.length_append]; omega) S2) ?_
   rintro ⟨ov3,h3⟩ S3
   simp only at S3
   with_reducible refine Tl.chk ?_ ?_
   ·simp only [ld2,hc0,hc2,i6v,wrapU,conv_int u2 u121,sameO_some,sameV_int,Bool.and_self,Bool.not_true,Bool.or_true,Bool.true_and,Bool.false_or]
   rw [hKt]
   have e2 : hd ++ rs.flatMap runB ++ pvarN (i + 1 - frm) ++ le (toU x) 0 8 = hd ++ (rs ++ [(i + 1 - frm,x)]).flatMap runB:=by simp [runB]
   rw [e2] at S3
   refine ih (rs:=rs ++ [(i + 1 - frm,x)]) (by omega) (by omega) (by omega) hhd ?_ hnext (fun y hy=>⟨hy,?_⟩) S3 hk
   ·simp only [List.flatMap_append,List.flatMap_cons,List.flatMap_nil,List.append_nil,List.length_append,runB,le_len]; omega
   ·rw [show i + 1 + 1 - (i + 1) = 1 by omega]; exact hx' y hy
  simp only [F194_lrlrrrrlr]
  unfold F194_lrrllrlrrrrlr
  have hc0:=hc h S.grow
  have hcf:=hcf h S.grow
  by_cases q : i + 1 < l.length
  ·obtain ⟨y,ey⟩ : ∃ x,l[i + 1]? = some x:=⟨_,List.getElem?_eq_getElem q⟩
   obtain ⟨b2,o2,hp2,hc2⟩:=Sl1.at_ A (t:=163) (k:=.i64) ey u163 sz2
   have hc2:=hc2 h S.grow
   rw [← e] at hp2
   rw [dropc ey] at hx1
   by_cases exy : y = x
   ·subst exy
    with_reducible repeat (first | (apply qzV; simp (disch:=omega) only [zA,bzIa.1,hlen,hp2,hc2,i6v,hpf,hcf] <;> rfl) | apply qzT | apply qzF | apply qzH | ((first | apply qzB | apply qzD); simp (disch:=omega) only [zA,bzIa.1,hlen,hp2,hc2,i6v,hpf,hcf] <;> rfl))
    rw [e]
    refine ih (rs:=rs) (by omega) (by omega) (by omega) hhd (by omega) (fun q=>by omega) (fun x' hx'=>?_) S hk
    rw [ey] at hx'
    cases hx'
    refine ⟨efx,?_⟩
    rw [← hx1,rli,if_pos rfl,show i + 1 + 1 - frm = i + 1 - frm + 1 by omega]
   ·with_reducible repeat (first | (apply qzV; simp (disch:=omega) only [zA,bzIa.1,hlen,hp2,hc2,i6v,hpf,hcf,wrapU] <;> rfl) | apply qzT | apply qzF | apply qzH | ((first | apply qzB | apply qzD); simp (disch:=omega) only [zA,bzIa.1,hlen,hp2,hc2,i6v,hpf,hcf,wrapU] <;> rfl))
    rw [rli,if_neg exy] at hx1
    have eu : (i : Int) + 1 - (frm : Int) = ((i + 1 - frm : Nat) : Int):=by omega
    rw [eu]
    refine step (fun q=>by omega) (fun y' hy'=>?_) (fun ov' h'=>Ev.bnd (pBin prog .add 3 (.tmp 48) (.const (.int .i64 1)) (.int .i64 (i : Int)) (.int .i64 1)) fun x49=>Ev.bnd (pBin prog .add 3 (.tmp 15) (.const (.int .i64 1)) (.int .i64 (i : Int)) (.int .i64 1)) fun x50=>F194_lrlrrrrlr (eInv env (k + 20)) (k + 20) j v ov' x49 (.int .i64 l.length) x50 h' ke0) (fun ov' h'=>?_)
    ·rw [ey] at hy'
     cases hy'
     simpa using hx1
    ·simp only [bin_add,bnd_some,e,wr_i64 (show -9223372036854775808 ≤ ((i + 1 : Nat) : Int) ∧ ((i + 1 : Nat) : Int) ≤ 9223372036854775807 by omega)]
  ·with_reducible repeat (first | (apply qzV; simp (disch:=omega) only [zA,bzIa.1,hlen,hp,hc0,i6v,hpf,hcf,wrapU] <;> rfl) | apply qzT | apply qzF | apply qzH | ((first | apply qzB | apply qzD); simp (disch:=omega) only [zA,bzIa.1,hlen,hp,hc0,i6v,hpf,hcf,wrapU] <;> rfl))
   have eu : (i : Int) + 1 - (frm : Int) = ((i + 1 - frm : Nat) : Int):=by omega
   rw [eu]
   rw [List.drop_eq_nil_of_le (by omega),rli] at hx1
   refine step (fun q=>hx1) (fun y' hy'=>?_) (fun ov' h'=>Ev.bnd (pBin prog .add 3 (.tmp 48) (.const (.int .i64 1)) (.int .i64 (i : Int)) (.int .i64 1)) fun x49=>Ev.bnd (pBin prog .add 3 (.tmp 15) (.const (.int .i64 1)) (.int .i64 (i : Int)) (.int .i64 1)) fun x50=>F194_lrlrrrrlr (eInv env (k + 20)) (k + 20) j v ov' x49 (.int .i64 l.length) x50 h' ke0) (fun ov' h'=>?_)
   ·rw [List.getElem?_eq_none (by omega)] at hy'
    cases hy'
   ·simp only [bin_add,bnd_some,e,wr_i64 (show -9223372036854775808 ≤ ((i + 1 : Nat) : Int) ∧ ((i + 1 : Nat) : Int) ≤ 9223372036854775807 by omega)]
theorem f194c {k : Nat} {h : AH} {v : Value} {l : List Int} (A : Ints h v l) (hl : l.length ≤ 4096) (hk : l.length < k) :
  Tl (eInv env (k + 30) (.func 194) #[] #[v] h) fun r=>∃ o,r.1 = .tuple #[o,.int .i64 0] ∧ Grow h r.2 ∧ OwnB prog h.n r.2 o 1 (u8rows (runsB l)):=by
 rw [F194_call]
 unfold F194
 have hv : ∀ h',pLen prog #[163] v h' = some (.int .i64 l.length):=fun h'=>Sl1.len A u163
 have h10:=pvarN_le10 (n:=l.length) (by omega)
 with_reducible repeat (first | (apply qzV; simp (disch:=omega) only [zA,bzIa.1,hv] <;> rfl) | apply qzT | apply qzF | apply qzH | ((first | apply qzB | apply qzD); simp (disch:=omega) only [zA,bzIa.1,hv] <;> rfl))
 refine Tl.bind (f212c (k:=k + 8) (f:=2) (n:=l.length) (by omega) (Stt.init h)) ?_
 rintro ⟨ov,h1⟩ S1
 simp only at S1
 with_reducible repeat (first | (apply qzV; simp (disch:=omega) only [zA,bzIa.1,hv] <;> rfl) | apply qzT | apply qzF | apply qzH | ((first | apply qzB | apply qzD); simp (disch:=omega) only [zA,bzIa.1,hv] <;> rfl))
 refine f194_loop (k:=k + 9) A (by omega) l.length (i:=0) (frm:=0) (rs:=[]) (hd:=headB 2 l.length) (by omega) (by omega) (by omega) (by unfold headB; simp; omega) (by simp) (fun q=>?_) (fun x hx=>⟨hx,?_⟩) (by simpa using S1) fun h' ov' y y' y'' S'=>?_
 ·have : l = []:=List.length_eq_zero_iff.1 q
  subst this
  rfl
 ·cases l with
  | nil=>simp at hx
  | cons a l=>simp at hx; subst hx; simp [runsI]
 ·exact ⟨_,rfl,_,rfl,S'.grow,S'.ret 0 rfl⟩
/-! ### 'Packed' -/
def minI : List Int→Int
 | []=>0
 | a :: l=>l.foldl (fun m x=>if x < m then x else m) a
theorem f214_loop {β : Type} {k : Nat} {Q : β→Prop} {h : AH} {v : Value} {l : List Int} (A : Ints h v l) (hl : l.length ≤ 5000) {ke0 : Value→Value→Value→Value→AH→Option β} (n : Nat) :
  ∀ {i j : Nat} {m : Int},i + n = l.length→n < j→(∀ y y',Tl (ke0 v (.int .i64 ((l.drop i).foldl (fun m x=>if x < m then x else m) m)) y y' h) Q) →
   Tl (F214_lrlrrr (eInv env k) k j v (.int .i64 m) (.int .i64 i) h ke0) Q:=by
 have hv : ∀ h',pLen prog #[163] v h' = some (.int .i64 l.length):=fun h'=>Sl1.len A u163
 induction n with
 | zero =>
  intro i j m hi hj hk
  obtain ⟨j,rfl⟩ : ∃ q,j = q + 1:=⟨j - 1,by omega⟩
  simp only [F214_lrlrrr]
  with_reducible repeat (first | (apply qzV; simp (disch:=omega) only [zA,bzIa.1,hv] <;> rfl) | apply qzT | apply qzF | (apply qzB; simp (disch:=omega) only [zA,bzIa.1,hv] <;> rfl))
  rw [List.drop_eq_nil_of_le (by omega)] at hk
  exact hk _ _
 | succ n ih =>
  intro i j m hi hj hk
  obtain ⟨j,rfl⟩ : ∃ q,j = q + 1:=⟨j - 1,by omega⟩
  obtain ⟨x,hx⟩ : ∃ x,l[i]? = some x:=⟨_,List.getElem?_eq_getElem (by omega)⟩
  obtain ⟨b,o,hp,hc1⟩:=Sl1.at_ A (t:=163) (k:=.i64) hx u163 sz2
  have hc1:=hc1 h (Grow.refl _)
  have e : (i : Int) + 1 = ((i + 1 : Nat) : Int):=by omega
  have mm : pMinMax prog false #[.int .i64 m,.int .i64 x] = some (.int .i64 (if x < m then x else m)):=by
   by_cases h : x < m
   ·have h2 : ¬ m ≤ x:=by omega
    simp [pMinMax,Builtin.min_,Builtin.min2,h,chk,plain,plain0] <;> rfl
   ·simp [pMinMax,Builtin.min_,Builtin.min2,h,chk,plain,plain0] <;> rfl
  rw [dropc hx] at hk
  simp only [F214_lrlrrr]
  with_reducible repeat (first | (apply qzV; simp (disch:=omega) only [zA,bzIa.1,hv,hp,hc1,i6v,mm] <;> rfl) | apply qzT | apply qzF | (apply qzB; simp (disch:=omega) only [zA,bzIa.1,hv,hp,hc1,i6v,mm] <;> rfl))
  rw [e]
  exact ih (by omega) (by omega) hk
theorem f214c {k : Nat} {h : AH} {v : Value} {l : List Int} (A : Ints h v l) (hne : l ≠ []) (hl : l.length ≤ 5000) (hk : l.length < k) : eInv env (k + 1) (.func 214) #[] #[v] h = some (.int .i64 (minI l),h):=by
 have hpos:=List.length_pos_iff.2 hne
 have T : Tl (F214 (eInv env k) k v h) fun r=>r = (.int .i64 (minI l),h):=by
  unfold F214
  have hv : ∀ h',pLen prog #[163] v h' = some (.int .i64 l.length):=fun h'=>Sl1.len A u163
  obtain ⟨x,hx⟩ : ∃ x,l[0]? = some x:=⟨_,List.getElem?_eq_getElem hpos⟩
  obtain ⟨b,o,hp,hc1⟩:=Sl1.at_ A (t:=163) (k:=.i64) hx u163 sz2
  have hc1:=hc1 h (Grow.refl _)
  have hp : pIndexAddr prog 163 v (.int .i64 0) = _:=hp
  unfold F214_rlr
  with_reducible repeat (first | (apply qzV; simp (disch:=omega) only [zA,bzIa.1,hv,hp,hc1,i6v] <;> rfl) | apply qzT | apply qzF | (apply qzB; simp (disch:=omega) only [zA,bzIa.1,hv,hp,hc1,i6v] <;> rfl))
  refine f214_loop A hl (l.length - 1) (i:=1) (by omega) (by omega) fun y y'=>⟨_,rfl,?_⟩
  cases l with
  | nil=>simp at hpos
  | cons a l=>simp at hx; subst hx; rfl
 obtain ⟨r,h1,h2⟩:=T
 rw [F214_call,h1,h2]
/-- What numbers have more than the least one. -/
def moreI (l : List Int) : List Nat:=l.map fun z=>toU (z - minI l)
def widI (l : List Int) : Nat:=Pk.widthN (moreI l)
def packB (l : List Int) : List Nat:=headB 3 l.length ++ le (toU (minI l)) 0 8 ++ (widI l :: putN (widI l) (moreI l))
theorem moreI_lt (l : List Int) : ∀ x ∈ moreI l,x < 18446744073709551616:=fun x hx=>by
 obtain ⟨z,_,rfl⟩:=List.mem_map.1 hx
 exact toU_lt _
theorem toU_sub (a b : Int) : IntKind.u64.wrap ((toU a : Int) - (toU b : Int)) = (toU (a - b) : Int):=by
 rw [wrap_u64]; unfold toU; omega
theorem f196_loop {β : Type} {k : Nat} {Q : β→Prop} {h0 : AH} {v : Value} {l : List Int} {m : Int} (A : Ints h0 v l) (hl : l.length ≤ 5000) {ke0 : Value→Value→Value→Value→Value→Value→Value→AH→Option β} (n : Nat) :
  ∀ {i j : Nat} {h : AH} {ov : Value} {done : List Nat},i + n = l.length→n < j→done.length = i→Stt prog h0.n h0 h [] [(ov,1,u64rows done)] →
   (∀ h' ov' y y',Stt prog h0.n h0 h' [] [(ov',1,u64rows (done ++ (l.drop i).map fun z=>toU (z - m)))]→Tl (ke0 v (.int .i64 m) ov' v (.int .i64 l.length) y y' h') Q) →
   Tl (F196_lrlrrrrr (eInv env k) k j v (.int .i64 m) ov v (.int .i64 l.length) (.int .i64 i) h ke0) Q:=by
 induction n with
 | zero =>
  intro i j h ov done hi hj hd S hk
  obtain ⟨j,rfl⟩ : ∃ q,j = q + 1:=⟨j - 1,by omega⟩
  simp only [F196_lrlrrrrr]
  with_reducible repeat (first | (apply qzV; simp (disch:=omega) only [zA,bzIa.1] <;> rfl) | apply qzT | apply qzF | (apply qzB; simp (disch:=omega) only [zA,bzIa.1] <;> rfl))
  refine hk _ _ _ _ ?_
  rw [List.drop_eq_nil_of_le (by omega)]
  simpa using S
 | succ n ih =>
  intro i j h ov done hi hj hd S hk
  obtain ⟨j,rfl⟩ : ∃ q,j = q + 1:=⟨j - 1,by omega⟩
  obtain ⟨x,hx⟩ : ∃ x,l[i]? = some x:=⟨_,List.getElem?_eq_getElem (by omega)⟩
  obtain ⟨b,o,hp,hc1⟩:=Sl1.at_ A (t:=163) (k:=.i64) hx u163 sz2
  have hc1:=hc1 h S.grow
  have e : (i : Int) + 1 = ((i + 1 : Nat) : Int):=by omega
  have cx : pConv prog 2 121 (.int .i64 x) h = some (.int .u64 (toU x : Int)):=by rw [conv_int u2 u121,wrapU]
  have cm : pConv prog 2 121 (.int .i64 m) h = some (.int .u64 (toU m : Int)):=by rw [conv_int u2 u121,wrapU]
  have sb : ∀ t a b,pBin prog Go.BinOp.sub t a b (.int .u64 (toU x : Int)) (.int .u64 (toU m : Int)) = some (.int .u64 (toU (x - m) : Int)):=fun t a b=>by rw [bin_sub,toU_sub]
  simp only [F196_lrlrrrrr]
  with_reducible apply Tl.val
  ·focus (simp (disch:=omega) only [zA,bzIa] <;> with_reducible rfl)
  with_reducible refine Tl.brT ?_
  with_reducible apply Tl.val
  ·exact hp
  with_reducible apply Tl.val
  ·rw [ld2]; exact hc1
  refine Tl.val cx ?_
  refine Tl.val cm ?_
  refine Tl.val (sb _ _ _) ?_
  refine Tl.push S 0 rfl app124 (bs124 _ _) rfl rfl (by rw [u64rows_len]; omega) fun ov2 h2 S2=>?_
  with_reducible repeat (first | (apply qzV; simp (disch:=omega) only [zA,bzIa.1] <;> rfl) | apply qzT | apply qzF | (apply qzB; simp (disch:=omega) only [zA,bzIa.1] <;> rfl))
  rw [e]
  refine ih (done:=done ++ [toU (x - m)]) (by omega) (by omega) (by simp [hd]) (by simpa [u64rows,u64v] using S2) fun h3 ov3 y y' S3=>hk h3 ov3 y y' ?_
  rw [dropc hx]
  simpa using S3
theorem widI_le (l : List Int) : widI l ≤ 64:=Pk.width64 (moreI_lt l)
theorem putN_len {w n : Nat} {l : List Nat} (hl : l.length = n) (hw : w ≤ 64) (hn : n ≤ 5000) : (putN w l).length ≤ 40100:=by
 have:=(putN_spec w l).2.1
 have h2 : l.length * w ≤ 5000 * 64:=Nat.mul_le_mul (by omega) hw
 omega
end Go.Proofs.YtlbmlncdjkdoaaaGreat.Sh
/- What the functions of the ints' package come to: 'Packed', 'Put'. -/
set_option linter.unusedVariables false
set_option linter.unusedSimpArgs false
set_option maxRecDepth 100000
namespace Go.Proofs.YtlbmlncdjkdoaaaGreat.Sh
open Go Go.RowKit Go.Proofs.Ev
open Tryz (prog)
def bzIb:=PLift.up (ai @ld3 (ai @ld2 (ai @ld4 (ai @ld5 (ai @ld121 (ai @ld93 (ai @ld163 (ai @ld124 (ai @ld195 (ai @ld200 (ai @fa200_0 (ai @fa200_1 (ai @fa200_2 (ai (fun a h=>conv_int (a:=a) (h:=h) u3 u121) (ai (fun a h=>conv_int (a:=a) (h:=h) u2 u121) (ai (fun a h=>conv_int (a:=a) (h:=h) u121 u5) (ai (fun a h=>conv_int (a:=a) (h:=h) u121 u2) (ai (fun a h=>conv_int (a:=a) (h:=h) u3 u5) (ai @ex2_0 (@ex2_1))))))))))))))))))))
theorem f196c {k : Nat} {h : AH} {v : Value} {l : List Int} (A : Ints h v l) (hl : l.length ≤ 4096) (hk : l.length < k) :
  Tl (eInv env (k + 500) (.func 196) #[] #[v] h) fun r=>∃ o,r.1 = .tuple #[o,.int .i64 0] ∧ Grow h r.2 ∧ OwnB prog h.n r.2 o 1 (u8rows (packB l)):=by
 rw [F196_call]
 unfold F196
 have hv : ∀ h',pLen prog #[163] v h' = some (.int .i64 l.length):=fun h'=>Sl1.len A u163
 have h10:=pvarN_le10 (n:=l.length) (by omega)
 have hw:=widI_le l
 -- behind the least one
 have go : Tl (F196_lrlrrrrr (eInv env (k + 499)) (k + 499) (k + 499) v (.int .i64 (minI l)) (.slice none 0 0) v (.int .i64 l.length) (.int .i64 0) h
   (fun y0_1 y4_2 y5 y20 y21 y22 y23 h_3 =>
  Ev.bnd (eInv env (k + 499) (.func 119) #[] #[y5] h_3) fun x36 =>
  Ev.bnd (eInv env (k + 499) (.func 88) #[] #[y5,x36.1] x36.2) fun x40 =>
  Ev.bnd (pExtract x40.1 0) fun x41 =>
  Ev.bnd (pExtract x40.1 1) fun x42 =>
  Ev.bnd (pBin prog .neq 28 (.tmp 43) (.const (.int .i64 0)) x42 (.int .i64 0)) fun x44 =>
  brV x44
  (some (Value.tuple #[(Value.slice none 0 0),x42],x40.2))
  (Ev.bnd (pLen prog #[163] y0_1 x40.2) fun x47 =>
  Ev.bnd (eInv env (k + 499) (.func 212) #[] #[(.int .u8 3),x47] x40.2) fun x48 =>
  Ev.bnd (pConv prog 2 121 y4_2 x48.2) fun x50 =>
  Ev.bnd (eInv env (k + 499) (.func 125) #[] #[x48.1,x50,(.int .i64 8)] x48.2) fun x51 =>
  Ev.bnd (pConv prog 3 5 x36.1 x51.2) fun x54 =>
  Ev.bnd (pBuildSlice prog 93 1 #[(0,x54)] x51.2) fun x55 =>
  Ev.bnd (pAppend prog #[93,93] x51.1 x55.1 x55.2) fun x56 =>
  Ev.bnd (pAppend prog #[93,93] x56.1 x41 x56.2) fun x58 =>
  some (Value.tuple #[x58.1,(.int .i64 0)],x58.2)))) fun r=>∃ o,r.1 = .tuple #[o,.int .i64 0] ∧ Grow h r.2 ∧ OwnB prog h.n r.2 o 1 (u8rows (packB l)):=by
  refine f196_loop A (by omega) l.length (i:=0) (done:=[]) (by omega) (by omega) rfl ((Stt.init h).nil 1) fun h1 ov y y' S1=>?_
  simp only [List.drop_zero,List.nil_append] at S1
  have S1 : Stt prog h.n h h1 [] [(ov,1,u64rows (moreI l))]:=S1
  have ml : (moreI l).length = l.length:=by simp [moreI]
  have W : Words h1 ov (moreI l):=S1.sl1 0 rfl
  have wid:=Pk.f15c (k:=k + 497) W.pk (by omega) (moreI_lt l) (by omega)
  have wid : eInv env (k + 499) (.func 119) #[] #[ov] h1 = some (.int .i64 (widI l),h1):=wid
  with_reducible repeat (first | (apply qzV; simp (disch:=omega) only [zA,bzIb.1,wid] <;> rfl) | apply qzT | apply qzF | (apply qzB; simp (disch:=omega) only [zA,bzIb.1,wid] <;> rfl))
  refine Tl.bind (f88c (k:=k + 198) W (by omega) (by omega) (moreI_lt l) (widI l : Int)) ?_
  rintro ⟨r,h2⟩ ⟨pv,er,g2,X⟩
  simp only at er g2 X
  subst er
  have pe : Pk.putE (moreI l) (widI l : Int) = 0:=Pk.putE_of (W:=widI l) (by omega) hw (Nat.le_refl _)
  have pl : Pk.putL (moreI l) (widI l : Int) = putN (widI l) (moreI l):=by unfold Pk.putL; rw [if_pos pe]; rfl
  rw [pl] at X
  have S2:=S1.gain g2 X
  with_reducible repeat (first | (apply qzV; simp (disch:=omega) only [zA,bzIb.1,pe,hv] <;> rfl) | apply qzT | apply qzF | (apply qzB; simp (disch:=omega) only [zA,bzIb.1,pe,hv] <;> rfl))
  refine Tl.bind (f212c (k:=k + 478) (f:=3) (n:=l.length) (by omega) S2) ?_
  rintro ⟨hv2,h3⟩ S3
  simp only at S3
  with_reducible repeat (first | (apply qzV; simp (disch:=omega) only [zA,bzIb.1,wrapU] <;> rfl) | apply qzT | apply qzF | (apply qzB; simp (disch:=omega) only [zA,bzIb.1,wrapU] <;> rfl))
  refine Tl.bind (f125c (k:=k + 479) (toU (minI l)) (by unfold headB; simp; omega) S3) ?_
  rintro ⟨hv3,h4⟩ S4
  simp only at S4
  with_reducible repeat (first | (apply qzV; simp (disch:=omega) only [zA,bzIb.1] <;> rfl) | apply qzT | apply qzF | (apply qzB; simp (disch:=omega) only [zA,bzIb.1] <;> rfl))
  refine Tl.push S4 0 rfl app93 (bs93 _ _) rfl rfl (by rw [u8rows_len]; unfold headB; simp [le_len]; omega) fun hv4 h5 S5=>?_
  have S5 : Stt prog h.n h h5 [] [(hv4,1,u8rows (headB 3 l.length ++ le (toU (minI l)) 0 8) ++ [[.int .u8 (widI l : Int)]]),(pv,1,u8rows (putN (widI l) (moreI l))),(ov,1,u64rows (moreI l))]:=S5
  have hpl:=putN_len (w:=widI l) ml hw (by omega)
  refine Tl.append' S5 0 rfl app93 (S5.slV 1 rfl) (one_u8rows _) (by rw [List.length_append,u8rows_len,u8rows_len]; unfold headB; simp [le_len]; omega) fun hv5 h6 S6=>?_
  with_reducible repeat (first | (apply qzV; simp (disch:=omega) only [zA,bzIb.1] <;> rfl) | apply qzT | apply qzF | (apply qzB; simp (disch:=omega) only [zA,bzIb.1] <;> rfl))
  refine ⟨_,rfl,hv5,rfl,S6.grow,?_⟩
  have R:=S6.ret 0 rfl
  have e3 : u8rows (headB 3 l.length ++ le (toU (minI l)) 0 8) ++ [[.int .u8 (widI l : Int)]] ++ u8rows (putN (widI l) (moreI l)) = u8rows (packB l):=by
   unfold packB
   simp [u8rows,u8v]
  rw [e3] at R
  exact R
 by_cases q : l = []
 ·subst q
  unfold F196_rlrrr
  with_reducible repeat (first | (apply qzV; simp (disch:=omega) only [zA,bzIb.1,hv,List.length_nil,Int.ofNat_zero] <;> rfl) | apply qzT | apply qzF | (apply qzB; simp (disch:=omega) only [zA,bzIb.1,hv,List.length_nil,Int.ofNat_zero] <;> rfl))
  exact go
 ·have hpos:=List.length_pos_iff.2 q
  have mn:=f214c (k:=k + 498) A q (by omega) (by omega)
  unfold F196_rlrrr
  with_reducible repeat (first | (apply qzV; simp (disch:=omega) only [zA,bzIb.1,hv,mn] <;> rfl) | apply qzT | apply qzF | (apply qzB; simp (disch:=omega) only [zA,bzIb.1,hv,mn] <;> rfl))
  exact go
/-! ### 'Put': the shortest -/
def shorter (m x : Value × List Nat) : Value × List Nat:=if x.2.length < m.2.length then x else m
def cmpN (a b : Int) : Int:=if a < b then -1 else if a > b then 1 else 0
theorem f172c {k : Nat} (a b : Int) (h : AH) : eInv env (k + 2) (.func 172) #[] #[.int .i64 a,.int .i64 b] h = some (.int .i64 (cmpN a b),h):=by
 have nan : ∀ z : Int,eInv env (k + 1) (.func 198) #[] #[.int .i64 z] h = some (.bool false,h):=fun z=>by
  rw [F198_call]
  unfold F198
  simp only [bin_neq,bnd_some,bne_self_eq_false]
 have T : Tl (F172 (eInv env (k + 1)) (k + 1) (.int .i64 a) (.int .i64 b) h) fun r=>r = (.int .i64 (cmpN a b),h):=by
  unfold F172 cmpN
  have na:=nan a
  have nb:=nan b
  by_cases h1 : a < b
  ·rw [if_pos h1]
   with_reducible repeat (first | (apply qzV; simp (disch:=omega) only [zA,bzIb.1,na,nb] <;> rfl) | apply qzT | apply qzF | (apply qzB; simp (disch:=omega) only [zA,bzIb.1,na,nb] <;> rfl))
   exact ⟨_,rfl,rfl⟩
  ·rw [if_neg h1]
   by_cases h2 : a > b
   ·rw [if_pos h2]
    with_reducible repeat (first | (apply qzV; simp (disch:=omega) only [zA,bzIb.1,na,nb] <;> rfl) | apply qzT | apply qzF | (apply qzB; simp (disch:=omega) only [zA,bzIb.1,na,nb] <;> rfl))
    exact ⟨_,rfl,rfl⟩
   ·rw [if_neg h2]
    with_reducible repeat (first | (apply qzV; simp (disch:=omega) only [zA,bzIb.1,na,nb] <;> rfl) | apply qzT | apply qzF | (apply qzB; simp (disch:=omega) only [zA,bzIb.1,na,nb] <;> rfl))
    exact ⟨_,rfl,rfl⟩
 obtain ⟨r,h1,h2⟩:=T
 rw [F172_call,h1,h2]
theorem f171c {k : Nat} {h : AH} {v w : Value} {l m : List Nat} (A : Bytes h v l) (B : Bytes h w m) : callV (eInv env (k + 3)) (.func (.func 171) #[] #[]) #[v,w] h = some (.int .i64 (cmpN l.length m.length),h):=by
 have e : callV (eInv env (k + 3)) (.func (.func 171) #[] #[]) #[v,w] h = eInv env (k + 3) (.func 171) #[] (#[] ++ #[v,w]) h:=rfl
 rw [e,show ((#[] : Array Value) ++ #[v,w]) = #[v,w] by simp,F171_call]
 unfold F171
 simp only [A.len,B.len,bnd_some,f172c]
theorem f170_loop {β : Type} {k : Nat} {Q : β→Prop} {h : AH} {v : Value} {vs : List (Value × List Nat)} (A : Sl1 prog h v (fun x : Value × List Nat=>x.1) vs) (hB : ∀ x ∈ vs,Bytes h x.1 x.2) (hl : vs.length ≤ 100)
  {ke0 : Value→Value→Value→Value→Value→AH→Option β} (n : Nat) :
  ∀ {i j : Nat} {m : Value × List Nat},i + n = vs.length→n < j→Bytes h m.1 m.2→(∀ y y',Tl (ke0 v (.func (.func 171) #[] #[]) ((vs.drop i).foldl shorter m).1 y y' h) Q) →
   Tl (F170_lrlrrr (eInv env (k + 3)) (k + 3) j v (.func (.func 171) #[] #[]) m.1 (.int .i64 i) h ke0) Q:=by
 have hv : ∀ h',pLen prog #[195] v h' = some (.int .i64 vs.length):=fun h'=>Sl1.len A u195
 induction n with
 | zero =>
  intro i j m hi hj hm hk
  obtain ⟨j,rfl⟩ : ∃ q,j = q + 1:=⟨j - 1,by omega⟩
  simp only [F170_lrlrrr]
  with_reducible repeat (first | (apply qzV; simp (disch:=omega) only [zA,bzIb.1,hv] <;> rfl) | apply qzT | apply qzF | (apply qzB; simp (disch:=omega) only [zA,bzIb.1,hv] <;> rfl))
  rw [List.drop_eq_nil_of_le (by omega)] at hk
  exact hk _ _
 | succ n ih =>
  intro i j m hi hj hm hk
  obtain ⟨j,rfl⟩ : ∃ q,j = q + 1:=⟨j - 1,by omega⟩
  obtain ⟨x,hx⟩ : ∃ x,vs[i]? = some x:=⟨_,List.getElem?_eq_getElem (by omega)⟩
  obtain ⟨b,o,hp,hc1⟩:=Sl1.at_ A (t:=195) (k:=.i64) hx u195 sz93
  have hc1:=hc1 h (Grow.refl _)
  have Bx:=hB x (List.mem_of_getElem? hx)
  have cm:=f171c (k:=k) Bx hm
  have e : (i : Int) + 1 = ((i + 1 : Nat) : Int):=by omega
  rw [dropc hx,List.foldl_cons] at hk
  simp only [F170_lrlrrr]
  unfold F170_lrllrlrrr
  by_cases q : x.2.length < m.2.length
  ·have ec : cmpN x.2.length m.2.length = -1:=by unfold cmpN; rw [if_pos (by omega)]
   have es : shorter m x = x:=by unfold shorter; rw [if_pos q]
   rw [es] at hk
   rw [ec] at cm
   with_reducible repeat (first | (apply qzV; simp (disch:=omega) only [zA,bzIb.1,hv,hp,hc1,cm] <;> rfl) | apply qzT | apply qzF | (apply qzB; simp (disch:=omega) only [zA,bzIb.1,hv,hp,hc1,cm] <;> rfl))
   rw [e]
   exact ih (by omega) (by omega) Bx hk
  ·have ec : ¬ cmpN x.2.length m.2.length < 0:=by unfold cmpN; split <;> (try split) <;> omega
   have es : shorter m x = m:=by unfold shorter; rw [if_neg q]
   rw [es] at hk
   with_reducible repeat (first | (apply qzV; simp (disch:=omega) only [zA,bzIb.1,hv,hp,hc1,cm] <;> rfl) | apply qzT | apply qzF | (apply qzB; simp (disch:=omega) only [zA,bzIb.1,hv,hp,hc1,cm] <;> rfl))
   rw [e]
   exact ih (by omega) (by omega) hm hk
theorem f170c {k : Nat} {h : AH} {v : Value} {a : Value × List Nat} {vs : List (Value × List Nat)} (A : Sl1 prog h v (fun x : Value × List Nat=>x.1) (a :: vs)) (hB : ∀ x ∈ a :: vs,Bytes h x.1 x.2) (hl : vs.length ≤ 90) (hk : vs.length < k) :
  eInv env (k + 4) (.func 170) #[] #[v,.func (.func 171) #[] #[]] h = some ((vs.foldl shorter a).1,h):=by
 have T : Tl (F170 (eInv env (k + 3)) (k + 3) v (.func (.func 171) #[] #[]) h) fun r=>r = ((vs.foldl shorter a).1,h):=by
  unfold F170
  have hv : ∀ h',pLen prog #[195] v h' = some (.int .i64 ((vs.length + 1 : Nat) : Int)):=fun h'=>Sl1.len A u195
  obtain ⟨b,o,hp,hc1⟩:=Sl1.at_ A (t:=195) (k:=.i64) (i:=0) (x:=a) rfl u195 sz93
  have hc1:=hc1 h (Grow.refl _)
  have hp : pIndexAddr prog 195 v (.int .i64 0) = _:=hp
  unfold F170_rlr
  with_reducible repeat (first | (apply qzV; simp (disch:=omega) only [zA,bzIb.1,hv,hp,hc1] <;> rfl) | apply qzT | apply qzF | (apply qzB; simp (disch:=omega) only [zA,bzIb.1,hv,hp,hc1] <;> rfl))
  exact f170_loop A hB (by simp; omega) vs.length (i:=1) (m:=a) (by simp; omega) (by omega) (hB a (by simp)) fun y y'=>⟨_,rfl,by simp⟩
 obtain ⟨r,h1,h2⟩:=T
 rw [F170_call,h1,h2]
end Go.Proofs.YtlbmlncdjkdoaaaGreat.Sh
