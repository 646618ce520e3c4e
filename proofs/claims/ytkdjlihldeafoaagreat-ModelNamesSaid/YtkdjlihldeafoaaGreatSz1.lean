/- Shallow functions, part 1. Printed by a program of the prover's own from the loaded program; Lean checks it. -/
import Derived.Test.YtkdjlihldeafoaaGreatSz0
set_option linter.unusedVariables false
set_option linter.unusedSimpArgs false
set_option maxRecDepth 100000
namespace Go.Proofs.YtkdjlihldeafoaaGreat.Sh
open Go Go.RowKit Go.Proofs.Ev
variable {β : Type} {inv : Inv} {k : Nat} {h : AH} {K : XE → Act → AH → Option β} {x0 x1 x2 x3 x4 x5 x6 x7 x8 x9 x10 x11 x12 x13 x14 x15 x16 x17 x18 x19 x20 x21 x22 x23 x24 x25 x26 x27 x28 x29 x30 x31 x32 x33 x34 x35 x36 x37 x38 x39 x40 x41 x42 x43 x44 x45 x46 x47 x49 x50 x51 x52 x53 x54 x55 x57 x59 x60 x61 x62 x63 x64 x65 x66 x67 x68 x69 x70 x71 x72 x74 x77 x78 x79 x80 x81 x82 x83 x84 x85 x87 x92 : Value}
noncomputable def c8 : Code := codeOf Tryz.prog 8
theorem r8_0  : kCode env 8 false inv k (cp c8 2) (act 208 []) h K =
    K .normal (act 208 []) h := kq_reg
theorem r8_1  : kCode env 8 false inv k (cp c8 12) (act 208 []) h K =
    bnd (inv (.func 11) #[] #[] h) fun x11 =>
    bnd (pUn Tryz.prog .not x11.1) fun x12 =>
    K .normal (act 208 [(12, x12)]) x11.2 := kq_reg
theorem b8_rlr  : kCode env 8 false inv k (cp c8 13) (act 208 [(12, x12)]) h K = brV x12 (kCode env 8 false inv k (cp c8 26) (act 208 [(12, x12)]) h K) (kCode env 8 false inv k (cp c8 27) (act 208 [(12, x12)]) h K) := kq_cond
theorem r8_2  : kCode env 8 false inv k (cp c8 52) (act 208 [(12, x12)]) h K =
    K .normal (act 208 [(0, (.bool false))]) h := kq_reg
theorem res8_0 : resOfFn env.P 8 .ret (act 208 [(0, x0)]) h = some (x0, h) := kq_res
theorem r8_3  : kCode env 8 false inv k (cp c8 14) (act 208 [(12, x12)]) h K =
    bnd (inv (.func 16) #[] #[(.string { data := #[116] }), (.string { data := #[] })] h) fun x13 =>
    bnd (pAlloc Tryz.prog 40 x13.2) fun x1 =>
    bnd (kSt (pStore Tryz.prog 40 x1.1 x13.1 x1.2)) fun u =>
    K .normal (act 208 [(1, x1.1)]) u.2 := kq_reg
theorem r8_4  : kCode env 8 false inv k (cp c8 30) (act 208 [(1, x1)]) h K =
    bnd (pBuildSlice Tryz.prog 24 1 #[(0, (.int .i64 2))] h) fun x14 =>
    bnd (pFieldAddr Tryz.prog 40 x1 6) fun x15 =>
    bnd (kSt (pStore Tryz.prog 24 x15 x14.1 x14.2)) fun u =>
    K .normal (act 208 [(1, x1)]) u.2 := kq_reg
theorem r8_5  : kCode env 8 false inv k (cp c8 62) (act 208 [(1, x1)]) h K =
    bnd (inv (.func 16) #[] #[(.string { data := #[116] }), (.string { data := #[] })] h) fun x16 =>
    bnd (pAlloc Tryz.prog 40 x16.2) fun x2 =>
    bnd (kSt (pStore Tryz.prog 40 x2.1 x16.1 x2.2)) fun u =>
    K .normal (act 208 [(1, x1), (2, x2.1)]) u.2 := kq_reg
theorem r8_6  : kCode env 8 false inv k (cp c8 126) (act 208 [(1, x1), (2, x2)]) h K =
    bnd (pBuild Tryz.prog 70 #[(0, (.int .i64 9))]) fun x17 =>
    bnd (pBuildSlice Tryz.prog 23 1 #[(0, x17)] h) fun x18 =>
    bnd (pFieldAddr Tryz.prog 40 x2 5) fun x19 =>
    bnd (kSt (pStore Tryz.prog 23 x19 x18.1 x18.2)) fun u =>
    K .normal (act 208 [(1, x1), (2, x2)]) u.2 := kq_reg
theorem r8_7  : kCode env 8 false inv k (cp c8 254) (act 208 [(1, x1), (2, x2)]) h K =
    bnd (inv (.func 16) #[] #[(.string { data := #[116] }), (.string { data := #[115] })] h) fun x20 =>
    bnd (pAlloc Tryz.prog 40 x20.2) fun x3 =>
    bnd (kSt (pStore Tryz.prog 40 x3.1 x20.1 x3.2)) fun u =>
    K .normal (act 208 [(1, x1), (2, x2), (3, x3.1)]) u.2 := kq_reg
theorem r8_8  : kCode env 8 false inv k (cp c8 510) (act 208 [(1, x1), (2, x2), (3, x3)]) h K =
    bnd (pBuild Tryz.prog 43 #[(0, (.int .i64 1))]) fun x21 =>
    bnd (pBuildSlice Tryz.prog 38 1 #[(0, x21)] h) fun x22 =>
    bnd (pFieldAddr Tryz.prog 40 x3 0) fun x23 =>
    bnd (kSt (pStore Tryz.prog 3 x23 (.int .i64 5) x22.2)) fun u =>
    bnd (pFieldAddr Tryz.prog 40 x3 7) fun x24 =>
    bnd (kSt (pStore Tryz.prog 38 x24 x22.1 u.2)) fun u_5 =>
    K .normal (act 208 [(1, x1), (2, x2), (3, x3)]) u_5.2 := kq_reg
theorem r8_9  : kCode env 8 false inv k (cp c8 1022) (act 208 [(1, x1), (2, x2), (3, x3)]) h K =
    bnd (pLoad Tryz.prog 40 x3 h) fun x25 =>
    bnd (pAlloc Tryz.prog 40 h) fun x4 =>
    bnd (kSt (pStore Tryz.prog 40 x4.1 x25 x4.2)) fun u =>
    K .normal (act 208 [(1, x1), (2, x2), (3, x3), (4, x4.1)]) u.2 := kq_reg
theorem r8_10  : kCode env 8 false inv k (cp c8 2046) (act 208 [(1, x1), (2, x2), (3, x3), (4, x4)]) h K =
    bnd (pFieldAddr Tryz.prog 40 x4 7) fun x26 =>
    bnd (kSt (pStore Tryz.prog 38 x26 (.slice none 0 0) h)) fun u =>
    K .normal (act 208 [(1, x1), (2, x2), (3, x3), (4, x4)]) u.2 := kq_reg
theorem r8_11  : kCode env 8 false inv k (cp c8 4094) (act 208 [(1, x1), (2, x2), (3, x3), (4, x4)]) h K =
    bnd (inv (.func 16) #[] #[(.string { data := #[116] }), (.string { data := #[] })] h) fun x27 =>
    bnd (pAlloc Tryz.prog 40 x27.2) fun x5 =>
    bnd (kSt (pStore Tryz.prog 40 x5.1 x27.1 x5.2)) fun u =>
    K .normal (act 208 [(1, x1), (2, x2), (3, x3), (4, x4), (5, x5.1)]) u.2 := kq_reg
theorem r8_12  : kCode env 8 false inv k (cp c8 8190) (act 208 [(1, x1), (2, x2), (3, x3), (4, x4), (5, x5)]) h K =
    bnd (pBuildSlice Tryz.prog 24 1 #[(0, (.int .i64 1))] h) fun x28 =>
    bnd (inv (.func 32) #[] #[(.int .i64 1)] x28.2) fun x29 =>
    bnd (pFieldAddr Tryz.prog 40 x5 6) fun x30 =>
    bnd (kSt (pStore Tryz.prog 24 x30 x28.1 x29.2)) fun u =>
    bnd (pFieldAddr Tryz.prog 40 x5 5) fun x31 =>
    bnd (kSt (pStore Tryz.prog 23 x31 x29.1 u.2)) fun u_11 =>
    K .normal (act 208 [(1, x1), (2, x2), (3, x3), (4, x4), (5, x5)]) u_11.2 := kq_reg
noncomputable abbrev G8_13 {β : Type} (inv : Inv) (x1 x2 x3 x4 x5 : Value) (h : AH) (K : Value → AH → Option β) : Option β :=
    bnd (inv (.func 33) #[] #[(.string { data := #[116] })] h) fun x32 =>
    bnd (inv (.func 33) #[] #[(.string { data := #[116] })] x32.2) fun x33 =>
    bnd (inv (.func 33) #[] #[(.string { data := #[49] })] x33.2) fun x34 =>
    bnd (pBuild Tryz.prog 40 #[(0, (.int .i64 1)), (1, (.string { data := #[117] }))]) fun x35 =>
    bnd (inv (.func 34) #[] #[(.string { data := #[117] }), (.string { data := #[97] }), (.int .i64 1)] x34.2) fun x36 =>
    bnd (inv (.func 34) #[] #[(.string { data := #[116] }), (.string { data := #[97] }), (.int .i64 1)] x36.2) fun x37 =>
    bnd (inv (.func 21) #[] #[(.int .i64 8), (.string { data := #[115] })] x37.2) fun x38 =>
    bnd (inv (.func 21) #[] #[(.int .i64 8), (.string { data := #[115] })] x38.2) fun x39 =>
    bnd (inv (.func 21) #[] #[(.int .i64 8), (.string { data := #[] })] x39.2) fun x40 =>
    bnd (inv (.func 34) #[] #[(.string { data := #[116] }), (.string { data := #[98] }), (.int .i64 2)] x40.2) fun x41 =>
    bnd (inv (.func 16) #[] #[(.string { data := #[116] }), (.string { data := #[115] })] x41.2) fun x42 =>
    bnd (inv (.func 16) #[] #[(.string { data := #[116] }), (.string { data := #[120] })] x42.2) fun x43 =>
    bnd (inv (.func 16) #[] #[(.string { data := #[117] }), (.string { data := #[115] })] x43.2) fun x44 =>
    bnd (pLoad Tryz.prog 40 x1 x44.2) fun x45 =>
    bnd (pLoad Tryz.prog 40 x2 x44.2) fun x46 =>
    bnd (pLoad Tryz.prog 40 x3 x44.2) fun x47 =>
    bnd (pLoad Tryz.prog 40 x4 x44.2) fun x48 =>
    bnd (pLoad Tryz.prog 40 x5 x44.2) fun x49 =>
    bnd (inv (.func 21) #[] #[(.int .i64 10), (.string { data := #[] })] x44.2) fun x50 =>
    bnd (inv (.func 21) #[] #[(.int .i64 10), (.string { data := #[120] })] x50.2) fun x51 =>
    bnd (inv (.func 21) #[] #[(.int .i64 11), (.string { data := #[] })] x51.2) fun x52 =>
    bnd (inv (.func 21) #[] #[(.int .i64 9), (.string { data := #[120] })] x52.2) fun x53 =>
    bnd (inv (.func 21) #[] #[(.int .i64 9), (.string { data := #[115] })] x53.2) fun x54 =>
    bnd (inv (.func 21) #[] #[(.int .i64 11), (.string { data := #[] })] x54.2) fun x55 =>
    bnd (pBuild Tryz.prog 40 #[(0, (.int .i64 2)), (1, (.string { data := #[116] }))]) fun x56 =>
    bnd (pBuild Tryz.prog 40 #[(0, (.int .i64 2)), (1, (.string { data := #[116] }))]) fun x57 =>
    bnd (pBuild Tryz.prog 40 #[(0, (.int .i64 99))]) fun x58 =>
    bnd (inv (.func 21) #[] #[(.int .i64 7), (.string { data := #[] })] x55.2) fun x59 =>
    bnd (inv (.func 16) #[] #[(.string { data := #[116] }), (.string { data := #[] })] x59.2) fun x60 =>
    bnd (pBuildSlice Tryz.prog 22 29 #[(0, x32.1), (1, x33.1), (2, x34.1), (3, x35), (4, x36.1), (5, x37.1), (6, x38.1), (7, x39.1), (8, x40.1), (9, x41.1), (10, x42.1), (11, x43.1), (12, x44.1), (13, x45), (14, x46), (15, x47), (16, x48), (17, x49), (18, x50.1), (19, x51.1), (20, x52.1), (21, x53.1), (22, x54.1), (23, x55.1), (24, x56), (25, x57), (26, x58), (27, x59.1), (28, x60.1)] x60.2) fun x61 =>
    bnd (inv (.func 30) #[] #[x61.1] x61.2) fun x62 =>
    chkK ((!true || !true || (sameO (pLoad Tryz.prog 40 x1 h) x45 && sameO (pLoad Tryz.prog 40 x1 x32.2) x45)) && ((!true || !true || (sameO (pLoad Tryz.prog 40 x1 x32.2) x45 && sameO (pLoad Tryz.prog 40 x1 x33.2) x45)) && ((!true || !true || (sameO (pLoad Tryz.prog 40 x1 x33.2) x45 && sameO (pLoad Tryz.prog 40 x1 x34.2) x45)) && ((!true || !true || (sameO (pLoad Tryz.prog 40 x1 x34.2) x45 && sameO (pLoad Tryz.prog 40 x1 x36.2) x45)) && ((!true || !true || (sameO (pLoad Tryz.prog 40 x1 x36.2) x45 && sameO (pLoad Tryz.prog 40 x1 x37.2) x45)) && ((!true || !true || (sameO (pLoad Tryz.prog 40 x1 x37.2) x45 && sameO (pLoad Tryz.prog 40 x1 x38.2) x45)) && ((!true || !true || (sameO (pLoad Tryz.prog 40 x1 x38.2) x45 && sameO (pLoad Tryz.prog 40 x1 x39.2) x45)) && ((!true || !true || (sameO (pLoad Tryz.prog 40 x1 x39.2) x45 && sameO (pLoad Tryz.prog 40 x1 x40.2) x45)) && ((!true || !true || (sameO (pLoad Tryz.prog 40 x1 x40.2) x45 && sameO (pLoad Tryz.prog 40 x1 x41.2) x45)) && ((!true || !true || (sameO (pLoad Tryz.prog 40 x1 x41.2) x45 && sameO (pLoad Tryz.prog 40 x1 x42.2) x45)) && ((!true || !true || (sameO (pLoad Tryz.prog 40 x1 x42.2) x45 && sameO (pLoad Tryz.prog 40 x1 x43.2) x45)) && ((!true || !true || (sameO (pLoad Tryz.prog 40 x1 x43.2) x45 && sameO (pLoad Tryz.prog 40 x1 x44.2) x45)) && ((!true || !true || (sameO (pLoad Tryz.prog 40 x1 x44.2) x45 && sameO (pLoad Tryz.prog 40 x1 x50.2) x45)) && ((!true || !true || (sameO (pLoad Tryz.prog 40 x1 x50.2) x45 && sameO (pLoad Tryz.prog 40 x1 x51.2) x45)) && ((!true || !true || (sameO (pLoad Tryz.prog 40 x1 x51.2) x45 && sameO (pLoad Tryz.prog 40 x1 x52.2) x45)) && ((!true || !true || (sameO (pLoad Tryz.prog 40 x1 x52.2) x45 && sameO (pLoad Tryz.prog 40 x1 x53.2) x45)) && ((!true || !true || (sameO (pLoad Tryz.prog 40 x1 x53.2) x45 && sameO (pLoad Tryz.prog 40 x1 x54.2) x45)) && ((!true || !true || (sameO (pLoad Tryz.prog 40 x1 x54.2) x45 && sameO (pLoad Tryz.prog 40 x1 x55.2) x45)) && ((!true || !true || (sameO (pLoad Tryz.prog 40 x1 x55.2) x45 && sameO (pLoad Tryz.prog 40 x1 x59.2) x45)) && ((!true || !true || (sameO (pLoad Tryz.prog 40 x1 x59.2) x45 && sameO (pLoad Tryz.prog 40 x1 x60.2) x45)) && ((!true || !true || (sameO (pLoad Tryz.prog 40 x2 h) x46 && sameO (pLoad Tryz.prog 40 x2 x32.2) x46)) && ((!true || !true || (sameO (pLoad Tryz.prog 40 x2 x32.2) x46 && sameO (pLoad Tryz.prog 40 x2 x33.2) x46)) && ((!true || !true || (sameO (pLoad Tryz.prog 40 x2 x33.2) x46 && sameO (pLoad Tryz.prog 40 x2 x34.2) x46)) && ((!true || !true || (sameO (pLoad Tryz.prog 40 x2 x34.2) x46 && sameO (pLoad Tryz.prog 40 x2 x36.2) x46)) && ((!true || !true || (sameO (pLoad Tryz.prog 40 x2 x36.2) x46 && sameO (pLoad Tryz.prog 40 x2 x37.2) x46)) && ((!true || !true || (sameO (pLoad Tryz.prog 40 x2 x37.2) x46 && sameO (pLoad Tryz.prog 40 x2 x38.2) x46)) && ((!true || !true || (sameO (pLoad Tryz.prog 40 x2 x38.2) x46 && sameO (pLoad Tryz.prog 40 x2 x39.2) x46)) && ((!true || !true || (sameO (pLoad Tryz.prog 40 x2 x39.2) x46 && sameO (pLoad Tryz.prog 40 x2 x40.2) x46)) && ((!true || !true || (sameO (pLoad Tryz.prog 40 x2 x40.2) x46 && sameO (pLoad Tryz.prog 40 x2 x41.2) x46)) && ((!true || !true || (sameO (pLoad Tryz.prog 40 x2 x41.2) x46 && sameO (pLoad Tryz.prog 40 x2 x42.2) x46)) && ((!true || !true || (sameO (pLoad Tryz.prog 40 x2 x42.2) x46 && sameO (pLoad Tryz.prog 40 x2 x43.2) x46)) && ((!true || !true || (sameO (pLoad Tryz.prog 40 x2 x43.2) x46 && sameO (pLoad Tryz.prog 40 x2 x44.2) x46)) && ((!true || !true || (sameO (pLoad Tryz.prog 40 x2 x44.2) x46 && sameO (pLoad Tryz.prog 40 x2 x50.2) x46)) && ((!true || !true || (sameO (pLoad Tryz.prog 40 x2 x50.2) x46 && sameO (pLoad Tryz.prog 40 x2 x51.2) x46)) && ((!true || !true || (sameO (pLoad Tryz.prog 40 x2 x51.2) x46 && sameO (pLoad Tryz.prog 40 x2 x52.2) x46)) && ((!true || !true || (sameO (pLoad Tryz.prog 40 x2 x52.2) x46 && sameO (pLoad Tryz.prog 40 x2 x53.2) x46)) && ((!true || !true || (sameO (pLoad Tryz.prog 40 x2 x53.2) x46 && sameO (pLoad Tryz.prog 40 x2 x54.2) x46)) && ((!true || !true || (sameO (pLoad Tryz.prog 40 x2 x54.2) x46 && sameO (pLoad Tryz.prog 40 x2 x55.2) x46)) && ((!true || !true || (sameO (pLoad Tryz.prog 40 x2 x55.2) x46 && sameO (pLoad Tryz.prog 40 x2 x59.2) x46)) && ((!true || !true || (sameO (pLoad Tryz.prog 40 x2 x59.2) x46 && sameO (pLoad Tryz.prog 40 x2 x60.2) x46)) && ((!true || !true || (sameO (pLoad Tryz.prog 40 x3 h) x47 && sameO (pLoad Tryz.prog 40 x3 x32.2) x47)) && ((!true || !true || (sameO (pLoad Tryz.prog 40 x3 x32.2) x47 && sameO (pLoad Tryz.prog 40 x3 x33.2) x47)) && ((!true || !true || (sameO (pLoad Tryz.prog 40 x3 x33.2) x47 && sameO (pLoad Tryz.prog 40 x3 x34.2) x47)) && ((!true || !true || (sameO (pLoad Tryz.prog 40 x3 x34.2) x47 && sameO (pLoad Tryz.prog 40 x3 x36.2) x47)) && ((!true || !true || (sameO (pLoad Tryz.prog 40 x3 x36.2) x47 && sameO (pLoad Tryz.prog 40 x3 x37.2) x47)) && ((!true || !true || (sameO (pLoad Tryz.prog 40 x3 x37.2) x47 && sameO (pLoad Tryz.prog 40 x3 x38.2) x47)) && ((!true || !true || (sameO (pLoad Tryz.prog 40 x3 x38.2) x47 && sameO (pLoad Tryz.prog 40 x3 x39.2) x47)) && ((!true || !true || (sameO (pLoad Tryz.prog 40 x3 x39.2) x47 && sameO (pLoad Tryz.prog 40 x3 x40.2) x47)) && ((!true || !true || (sameO (pLoad Tryz.prog 40 x3 x40.2) x47 && sameO (pLoad Tryz.prog 40 x3 x41.2) x47)) && ((!true || !true || (sameO (pLoad Tryz.prog 40 x3 x41.2) x47 && sameO (pLoad Tryz.prog 40 x3 x42.2) x47)) && ((!true || !true || (sameO (pLoad Tryz.prog 40 x3 x42.2) x47 && sameO (pLoad Tryz.prog 40 x3 x43.2) x47)) && ((!true || !true || (sameO (pLoad Tryz.prog 40 x3 x43.2) x47 && sameO (pLoad Tryz.prog 40 x3 x44.2) x47)) && ((!true || !true || (sameO (pLoad Tryz.prog 40 x3 x44.2) x47 && sameO (pLoad Tryz.prog 40 x3 x50.2) x47)) && ((!true || !true || (sameO (pLoad Tryz.prog 40 x3 x50.2) x47 && sameO (pLoad Tryz.prog 40 x3 x51.2) x47)) && ((!true || !true || (sameO (pLoad Tryz.prog 40 x3 x51.2) x47 && sameO (pLoad Tryz.prog 40 x3 x52.2) x47)) && ((!true || !true || (sameO (pLoad Tryz.prog 40 x3 x52.2) x47 && sameO (pLoad Tryz.prog 40 x3 x53.2) x47)) && ((!true || !true || (sameO (pLoad Tryz.prog 40 x3 x53.2) x47 && sameO (pLoad Tryz.prog 40 x3 x54.2) x47)) && ((!true || !true || (sameO (pLoad Tryz.prog 40 x3 x54.2) x47 && sameO (pLoad Tryz.prog 40 x3 x55.2) x47)) && ((!true || !true || (sameO (pLoad Tryz.prog 40 x3 x55.2) x47 && sameO (pLoad Tryz.prog 40 x3 x59.2) x47)) && ((!true || !true || (sameO (pLoad Tryz.prog 40 x3 x59.2) x47 && sameO (pLoad Tryz.prog 40 x3 x60.2) x47)) && ((!true || !true || (sameO (pLoad Tryz.prog 40 x4 h) x48 && sameO (pLoad Tryz.prog 40 x4 x32.2) x48)) && ((!true || !true || (sameO (pLoad Tryz.prog 40 x4 x32.2) x48 && sameO (pLoad Tryz.prog 40 x4 x33.2) x48)) && ((!true || !true || (sameO (pLoad Tryz.prog 40 x4 x33.2) x48 && sameO (pLoad Tryz.prog 40 x4 x34.2) x48)) && ((!true || !true || (sameO (pLoad Tryz.prog 40 x4 x34.2) x48 && sameO (pLoad Tryz.prog 40 x4 x36.2) x48)) && ((!true || !true || (sameO (pLoad Tryz.prog 40 x4 x36.2) x48 && sameO (pLoad Tryz.prog 40 x4 x37.2) x48)) && ((!true || !true || (sameO (pLoad Tryz.prog 40 x4 x37.2) x48 && sameO (pLoad Tryz.prog 40 x4 x38.2) x48)) && ((!true || !true || (sameO (pLoad Tryz.prog 40 x4 x38.2) x48 && sameO (pLoad Tryz.prog 40 x4 x39.2) x48)) && ((!true || !true || (sameO (pLoad Tryz.prog 40 x4 x39.2) x48 && sameO (pLoad Tryz.prog 40 x4 x40.2) x48)) && ((!true || !true || (sameO (pLoad Tryz.prog 40 x4 x40.2) x48 && sameO (pLoad Tryz.prog 40 x4 x41.2) x48)) && ((!true || !true || (sameO (pLoad Tryz.prog 40 x4 x41.2) x48 && sameO (pLoad Tryz.prog 40 x4 x42.2) x48)) && ((!true || !true || (sameO (pLoad Tryz.prog 40 x4 x42.2) x48 && sameO (pLoad Tryz.prog 40 x4 x43.2) x48)) && ((!true || !true || (sameO (pLoad Tryz.prog 40 x4 x43.2) x48 && sameO (pLoad Tryz.prog 40 x4 x44.2) x48)) && ((!true || !true || (sameO (pLoad Tryz.prog 40 x4 x44.2) x48 && sameO (pLoad Tryz.prog 40 x4 x50.2) x48)) && ((!true || !true || (sameO (pLoad Tryz.prog 40 x4 x50.2) x48 && sameO (pLoad Tryz.prog 40 x4 x51.2) x48)) && ((!true || !true || (sameO (pLoad Tryz.prog 40 x4 x51.2) x48 && sameO (pLoad Tryz.prog 40 x4 x52.2) x48)) && ((!true || !true || (sameO (pLoad Tryz.prog 40 x4 x52.2) x48 && sameO (pLoad Tryz.prog 40 x4 x53.2) x48)) && ((!true || !true || (sameO (pLoad Tryz.prog 40 x4 x53.2) x48 && sameO (pLoad Tryz.prog 40 x4 x54.2) x48)) && ((!true || !true || (sameO (pLoad Tryz.prog 40 x4 x54.2) x48 && sameO (pLoad Tryz.prog 40 x4 x55.2) x48)) && ((!true || !true || (sameO (pLoad Tryz.prog 40 x4 x55.2) x48 && sameO (pLoad Tryz.prog 40 x4 x59.2) x48)) && ((!true || !true || (sameO (pLoad Tryz.prog 40 x4 x59.2) x48 && sameO (pLoad Tryz.prog 40 x4 x60.2) x48)) && ((!true || !true || (sameO (pLoad Tryz.prog 40 x5 h) x49 && sameO (pLoad Tryz.prog 40 x5 x32.2) x49)) && ((!true || !true || (sameO (pLoad Tryz.prog 40 x5 x32.2) x49 && sameO (pLoad Tryz.prog 40 x5 x33.2) x49)) && ((!true || !true || (sameO (pLoad Tryz.prog 40 x5 x33.2) x49 && sameO (pLoad Tryz.prog 40 x5 x34.2) x49)) && ((!true || !true || (sameO (pLoad Tryz.prog 40 x5 x34.2) x49 && sameO (pLoad Tryz.prog 40 x5 x36.2) x49)) && ((!true || !true || (sameO (pLoad Tryz.prog 40 x5 x36.2) x49 && sameO (pLoad Tryz.prog 40 x5 x37.2) x49)) && ((!true || !true || (sameO (pLoad Tryz.prog 40 x5 x37.2) x49 && sameO (pLoad Tryz.prog 40 x5 x38.2) x49)) && ((!true || !true || (sameO (pLoad Tryz.prog 40 x5 x38.2) x49 && sameO (pLoad Tryz.prog 40 x5 x39.2) x49)) && ((!true || !true || (sameO (pLoad Tryz.prog 40 x5 x39.2) x49 && sameO (pLoad Tryz.prog 40 x5 x40.2) x49)) && ((!true || !true || (sameO (pLoad Tryz.prog 40 x5 x40.2) x49 && sameO (pLoad Tryz.prog 40 x5 x41.2) x49)) && ((!true || !true || (sameO (pLoad Tryz.prog 40 x5 x41.2) x49 && sameO (pLoad Tryz.prog 40 x5 x42.2) x49)) && ((!true || !true || (sameO (pLoad Tryz.prog 40 x5 x42.2) x49 && sameO (pLoad Tryz.prog 40 x5 x43.2) x49)) && ((!true || !true || (sameO (pLoad Tryz.prog 40 x5 x43.2) x49 && sameO (pLoad Tryz.prog 40 x5 x44.2) x49)) && ((!true || !true || (sameO (pLoad Tryz.prog 40 x5 x44.2) x49 && sameO (pLoad Tryz.prog 40 x5 x50.2) x49)) && ((!true || !true || (sameO (pLoad Tryz.prog 40 x5 x50.2) x49 && sameO (pLoad Tryz.prog 40 x5 x51.2) x49)) && ((!true || !true || (sameO (pLoad Tryz.prog 40 x5 x51.2) x49 && sameO (pLoad Tryz.prog 40 x5 x52.2) x49)) && ((!true || !true || (sameO (pLoad Tryz.prog 40 x5 x52.2) x49 && sameO (pLoad Tryz.prog 40 x5 x53.2) x49)) && ((!true || !true || (sameO (pLoad Tryz.prog 40 x5 x53.2) x49 && sameO (pLoad Tryz.prog 40 x5 x54.2) x49)) && ((!true || !true || (sameO (pLoad Tryz.prog 40 x5 x54.2) x49 && sameO (pLoad Tryz.prog 40 x5 x55.2) x49)) && ((!true || !true || (sameO (pLoad Tryz.prog 40 x5 x55.2) x49 && sameO (pLoad Tryz.prog 40 x5 x59.2) x49)) && ((!true || !true || (sameO (pLoad Tryz.prog 40 x5 x59.2) x49 && sameO (pLoad Tryz.prog 40 x5 x60.2) x49)) && true)))))))))))))))))))))))))))))))))))))))))))))))))))))))))))))))))))))))))))))))))))))))))))))))))))) <|
    K (x62.1) x62.2
theorem r8_13  : kCode env 8 false inv k (cp c8 16382) (act 208 [(1, x1), (2, x2), (3, x3), (4, x4), (5, x5)]) h K =
    G8_13 inv x1 x2 x3 x4 x5 h fun y6 h => K .normal (act 208 [(6, y6)]) h := kq_draw
noncomputable abbrev G8_14 {β : Type} (inv : Inv) (x6 : Value) (h : AH) (K : Value → AH → Option β) : Option β :=
    bnd (pBuildSlice Tryz.prog 74 29 #[(0, (.int .i64 0)), (1, (.int .i64 6)), (2, (.int .i64 170)), (3, (.int .i64 171)), (4, (.int .i64 210)), (5, (.int .i64 0)), (6, (.int .i64 0)), (7, (.int .i64 6)), (8, (.int .i64 170)), (9, (.int .i64 0)), (10, (.int .i64 0)), (11, (.int .i64 211)), (12, (.int .i64 210)), (13, (.int .i64 172)), (14, (.int .i64 180)), (15, (.int .i64 0)), (16, (.int .i64 200)), (17, (.int .i64 0)), (18, (.int .i64 0)), (19, (.int .i64 211)), (20, (.int .i64 0)), (21, (.int .i64 211)), (22, (.int .i64 0)), (23, (.int .i64 0)), (24, (.int .i64 0)), (25, (.int .i64 210)), (26, (.int .i64 212)), (27, (.int .i64 0)), (28, (.int .i64 0))] h) fun x63 =>
    K (x63.1) x63.2
theorem r8_14  : kCode env 8 false inv k (cp c8 32766) (act 208 [(6, x6)]) h K =
    G8_14 inv x6 h fun y7 h => K .normal (act 208 [(6, x6), (7, y7)]) h := kq_reg
theorem r8_15  : kCode env 8 false inv k (cp c8 131068) (act 208 [(6, x6), (7, x7)]) h K =
    bnd (pLen Tryz.prog #[67] x6 h) fun x65 =>
    bnd (pLen Tryz.prog #[74] x7 h) fun x67 =>
    bnd (pBin Tryz.prog .neq 3 (.tmp 65) (.tmp 67) x65 x67) fun x68 =>
    K .normal (act 208 [(6, x6), (7, x7), (68, x68)]) h := kq_reg
theorem b8_rlrrrrrrrrrrrrrr  : kCode env 8 false inv k (cp c8 131069) (act 208 [(6, x6), (7, x7), (68, x68)]) h K = brV x68 (kCode env 8 false inv k (cp c8 262138) (act 208 [(6, x6), (7, x7), (68, x68)]) h K) (kCode env 8 false inv k (cp c8 262139) (act 208 [(6, x6), (7, x7), (68, x68)]) h K) := kq_cond
theorem r8_16  : kCode env 8 false inv k (cp c8 524276) (act 208 [(6, x6), (7, x7), (68, x68)]) h K =
    K .normal (act 208 [(0, (.bool false))]) h := kq_reg
theorem r8_17  : kCode env 8 false inv k (cp c8 262140) (act 208 [(6, x6), (7, x7), (68, x68)]) h K =
    K .normal (act 208 [(6, x6), (7, x7), (8, (.int .i64 0))]) h := kq_reg
theorem r8_18  : kCode env 8 false inv k (cp c8 4194256) (act 208 [(6, x6), (7, x7), (8, x8)]) h K =
    bnd (pLen Tryz.prog #[67] x6 h) fun x71 =>
    bnd (pBin Tryz.prog .lss 3 (.tmp 69) (.tmp 71) x8 x71) fun x72 =>
    K .normal (act 208 [(6, x6), (7, x7), (8, x8), (72, x72)]) h := kq_reg
theorem b8_rlllrlrrrrrrrrrrrrrrr  : kCode env 8 false inv k (cp c8 4194257) (act 208 [(6, x6), (7, x7), (8, x8), (72, x72)]) h K = brV x72 (kCode env 8 false inv k (cp c8 8388514) (act 208 [(6, x6), (7, x7), (8, x8), (72, x72)]) h K) (kCode env 8 false inv k (cp c8 8388515) (act 208 [(6, x6), (7, x7), (8, x8), (72, x72)]) h K) := kq_cond
theorem r8_20  : kCode env 8 false inv k (cp c8 16777032) (act 208 [(6, x6), (7, x7), (8, x8), (72, x72)]) h K =
    bnd (pIndexAddr Tryz.prog 67 x6 x8) fun x77 =>
    bnd (pFieldAddr Tryz.prog 34 x77 0) fun x78 =>
    bnd (pLoad Tryz.prog 30 x78 h) fun x79 =>
    bnd (pIndexAddr Tryz.prog 74 x7 x8) fun x82 =>
    bnd (pLoad Tryz.prog 30 x82 h) fun x83 =>
    bnd (pBin Tryz.prog .neq 30 (.tmp 79) (.tmp 83) x79 x83) fun x84 =>
    K .normal (act 208 [(6, x6), (7, x7), (8, x8), (84, x84)]) h := kq_draw
theorem b8_rllrllrlrrrrrrrrrrrrrrr  : kCode env 8 false inv k (cp c8 16777033) (act 208 [(6, x6), (7, x7), (8, x8), (84, x84)]) h K = brV x84 (kCode env 8 false inv k (cp c8 33554066) (act 208 [(6, x6), (7, x7), (8, x8), (84, x84)]) h K) (kCode env 8 false inv k (cp c8 33554067) (act 208 [(6, x6), (7, x7), (8, x8), (84, x84)]) h K) := kq_cond
theorem r8_21  : kCode env 8 false inv k (cp c8 67108132) (act 208 [(6, x6), (7, x7), (8, x8), (84, x84)]) h K =
    K .normal (act 208 [(0, (.bool false))]) h := kq_reg
theorem r8_19  : kCode env 8 false inv k (cp c8 4194259) (act 208 [(6, x6), (7, x7), (8, x8), (84, x84)]) h K =
    bnd (pBin Tryz.prog .add 3 (.tmp 73) (.const (.int .i64 1)) x8 (.int .i64 1)) fun x74 =>
    K .normal (act 208 [(6, x6), (7, x7), (8, x74)]) h := kq_reg
noncomputable def F8_lrlrrrrrrrrrrrrrrr {β : Type} (inv : Inv) (k : Nat) : Nat → Value → Value → Value → AH → (Value → Value → Value → Value → AH → Option β) → (Value → AH → Option β) → Option β
  | 0, _, _, _, _, _, _ => none
  | j + 1, x6, x7, x8, h, ke0, kr =>
    bnd (pLen Tryz.prog #[67] x6 h) fun x71 =>
    bnd (pBin Tryz.prog .lss 3 (.tmp 69) (.tmp 71) x8 x71) fun x72 =>
    brV x72
    (bnd (pIndexAddr Tryz.prog 67 x6 x8) fun x77 =>
    bnd (pFieldAddr Tryz.prog 34 x77 0) fun x78 =>
    bnd (pLoad Tryz.prog 30 x78 h) fun x79 =>
    bnd (pIndexAddr Tryz.prog 74 x7 x8) fun x82 =>
    bnd (pLoad Tryz.prog 30 x82 h) fun x83 =>
    bnd (pBin Tryz.prog .neq 30 (.tmp 79) (.tmp 83) x79 x83) fun x84 =>
    brV x84
    (kr (.bool false) h)
    (bnd (pBin Tryz.prog .add 3 (.tmp 73) (.const (.int .i64 1)) x8 (.int .i64 1)) fun x74 =>
    F8_lrlrrrrrrrrrrrrrrr inv k j x6 x7 x74 h ke0 kr))
    (ke0 x6 x7 x8 x72 h)
theorem F8_lrlrrrrrrrrrrrrrrr_j (j : Nat) : kLoop (kCode env 8 false inv k (cp c8 1048564)) j (act 208 [(6, x6), (7, x7), (8, x8)]) h K = F8_lrlrrrrrrrrrrrrrrr inv k j x6 x7 x8 h (fun y6 y7 y8 y72 h => K (.exit 0) (act 208 [(6, y6), (7, y7), (8, y8), (72, y72)]) h) (fun y0 h => K .ret (act 208 [(0, y0)]) h) := by
      induction j generalizing x6 x7 x8 h with
      | zero => rfl
      | succ j ih =>
        unfold F8_lrlrrrrrrrrrrrrrrr
        simp only [kLoop, kq_seq c8 1048564, kq_seq c8 2097128, r8_18, b8_rlllrlrrrrrrrrrrrrrrr, kq_skip c8 8388514, kq_seq c8 2097129, kq_block c8 4194258 1, kq_seq c8 8388516, r8_20, b8_rllrllrlrrrrrrrrrrrrrrr, kq_seq c8 33554066, r8_21, kq_ret c8 67108133, kq_skip c8 33554067, r8_19, kq_exit c8 8388515 0, ih, reduceIte, reduceCtorEq, XE.exit.injEq, Nat.reduceEqDiff, Nat.reduceMul, Nat.reduceAdd] <;> kernel_rfl
theorem F8_lrlrrrrrrrrrrrrrrr_eq  : kCode env 8 false inv k (cp c8 524282) (act 208 [(6, x6), (7, x7), (8, x8)]) h K = F8_lrlrrrrrrrrrrrrrrr inv k k x6 x7 x8 h (fun y6 y7 y8 y72 h => K (.exit 0) (act 208 [(6, y6), (7, y7), (8, y8), (72, y72)]) h) (fun y0 h => K .ret (act 208 [(0, y0)]) h) := kq_loop (F8_lrlrrrrrrrrrrrrrrr_j k)
theorem r8_22  : kCode env 8 false inv k (cp c8 262142) (act 208 [(6, x6), (7, x7), (8, x8), (72, x72)]) h K =
    bnd (inv (.func 14) #[] #[] h) fun x85 =>
    K .normal (act 208 [(6, x6), (9, x85.1)]) x85.2 := kq_reg
theorem r8_23  : kCode env 8 false inv k (cp c8 1048572) (act 208 [(6, x6), (9, x9)]) h K =
    bnd (pBin Tryz.prog .eql 28 (.tmp 86) (.const (.pointer none)) x9 (.pointer none)) fun x87 =>
    K .normal (act 208 [(6, x6), (9, x9), (87, x87)]) h := kq_reg
theorem b8_rlrrrrrrrrrrrrrrrrr  : kCode env 8 false inv k (cp c8 1048573) (act 208 [(6, x6), (9, x9), (87, x87)]) h K = brV x87 (kCode env 8 false inv k (cp c8 2097146) (act 208 [(6, x6), (9, x9), (87, x87)]) h K) (kCode env 8 false inv k (cp c8 2097147) (act 208 [(6, x6), (9, x9), (87, x87)]) h K) := kq_cond
theorem r8_24  : kCode env 8 false inv k (cp c8 4194292) (act 208 [(6, x6), (9, x9), (87, x87)]) h K =
    K .normal (act 208 [(0, (.bool false))]) h := kq_reg
theorem r8_25  : kCode env 8 false inv k (cp c8 1048574) (act 208 [(6, x6), (9, x9), (87, x87)]) h K =
    bnd (inv (.func 33) #[] #[(.string { data := #[116] })] h) fun x89 =>
    bnd (inv (.func 15) #[] #[x9, x89.1] x89.2) fun x90 =>
    K .normal (act 208 [(6, x6), (9, x9)]) x90.2 := kq_reg
theorem r8_26  : kCode env 8 false inv k (cp c8 2097150) (act 208 [(6, x6), (9, x9)]) h K =
    bnd (inv (.func 35) #[] #[x9] h) fun x92 =>
    K .normal (act 208 [(6, x6), (9, x9), (10, x92.1)]) x92.2 := kq_reg
theorem r8_27  : kCode env 8 false inv k (cp c8 4194302) (act 208 [(6, x6), (9, x9), (10, x10)]) h K =
    bnd (inv (.func 21) #[] #[(.int .i64 6), (.string { data := #[] })] h) fun x94 =>
    bnd (inv (.func 15) #[] #[x10, x94.1] x94.2) fun x95 =>
    K .normal (act 208 [(6, x6), (9, x9), (10, x10)]) x95.2 := kq_reg
noncomputable abbrev G8_28 {β : Type} (inv : Inv) (x6 x9 x10 : Value) (h : AH) (K : Value → AH → Option β) : Option β :=
    bnd (pIndexAddr Tryz.prog 67 x6 (.int .i64 10)) fun x97 =>
    bnd (pFieldAddr Tryz.prog 34 x97 1) fun x98 =>
    bnd (pLoad Tryz.prog 31 x98 h) fun x99 =>
    bnd (inv (.func 36) #[] #[(.string { data := #[97] }), (.int .i64 1)] h) fun x100 =>
    bnd (pBuildSlice Tryz.prog 31 1 #[(0, x100.1)] x100.2) fun x101 =>
    bnd (inv (.func 19) #[] #[x99, x101.1] x101.2) fun x102 =>
    bnd (gd3 (some x102.1) true x102.2 (some (x6, x102.2))) fun x104 =>
    bnd (gd3 (some x102.1) true x104.2.1 (lt (pIndexAddr Tryz.prog 67 x104.1 (.int .i64 15)) x104.2.1)) fun x105 =>
    bnd (gd3 (some x102.1) true x105.2.1 (lt (pFieldAddr Tryz.prog 34 x105.1 1) x105.2.1)) fun x106 =>
    bnd (gd3 (some x102.1) true x106.2.1 (lt (pLoad Tryz.prog 31 x106.1 x106.2.1) x106.2.1)) fun x107 =>
    bnd (gd3 (some x102.1) true x107.2.1 (inv (.func 20) #[] #[(.int .i64 1)] x107.2.1)) fun x108 =>
    bnd (gd3 (some x102.1) true x108.2.1 (pBuildSlice Tryz.prog 45 1 #[(0, x108.1)] x108.2.1)) fun x109 =>
    bnd (gd3 (some x102.1) true x109.2.1 (pBuildSlice Tryz.prog 31 1 #[(0, x109.1)] x109.2.1)) fun x110 =>
    bnd (gd3 (some x102.1) true x110.2.1 (inv (.func 19) #[] #[x107.1, x110.1] x110.2.1)) fun x111 =>
    bnd (pickV x102.1 x111.1 (.bool false)) fun x112 =>
    bnd (gd3 (some x112) true x111.2.1 (some (x6, x111.2.1))) fun x114 =>
    bnd (gd3 (some x112) true x114.2.1 (lt (pIndexAddr Tryz.prog 67 x114.1 (.int .i64 17)) x114.2.1)) fun x115 =>
    bnd (gd3 (some x112) true x115.2.1 (lt (pFieldAddr Tryz.prog 34 x115.1 1) x115.2.1)) fun x116 =>
    bnd (gd3 (some x112) true x116.2.1 (lt (pLoad Tryz.prog 31 x116.1 x116.2.1) x116.2.1)) fun x117 =>
    bnd (gd3 (some x112) true x117.2.1 (inv (.func 20) #[] #[(.int .i64 2)] x117.2.1)) fun x118 =>
    bnd (gd3 (some x112) true x118.2.1 (pBuildSlice Tryz.prog 45 1 #[(0, x118.1)] x118.2.1)) fun x119 =>
    bnd (gd3 (some x112) true x119.2.1 (pBuildSlice Tryz.prog 31 1 #[(0, x119.1)] x119.2.1)) fun x120 =>
    bnd (gd3 (some x112) true x120.2.1 (inv (.func 19) #[] #[x117.1, x120.1] x120.2.1)) fun x121 =>
    bnd (pickV x112 x121.1 (.bool false)) fun x122 =>
    bnd (gd3 (some x122) true x121.2.1 (some (x6, x121.2.1))) fun x124 =>
    bnd (gd3 (some x122) true x124.2.1 (lt (pIndexAddr Tryz.prog 67 x124.1 (.int .i64 18)) x124.2.1)) fun x125 =>
    bnd (gd3 (some x122) true x125.2.1 (lt (pFieldAddr Tryz.prog 34 x125.1 2) x125.2.1)) fun x126 =>
    bnd (gd3 (some x122) true x126.2.1 (lt (pLoad Tryz.prog 32 x126.1 x126.2.1) x126.2.1)) fun x127 =>
    bnd (gd3 (some x122) true x127.2.1 (pBuildSlice Tryz.prog 32 1 #[(0, (.string { data := #[116] }))] x127.2.1)) fun x128 =>
    bnd (gd3 (some x122) true x128.2.1 (inv (.func 37) #[] #[x127.1, x128.1] x128.2.1)) fun x129 =>
    bnd (pickV x122 x129.1 (.bool false)) fun x130 =>
    bnd (gd3 (some x130) true x129.2.1 (some (x6, x129.2.1))) fun x132 =>
    bnd (gd3 (some x130) true x132.2.1 (lt (pIndexAddr Tryz.prog 67 x132.1 (.int .i64 20)) x132.2.1)) fun x133 =>
    bnd (gd3 (some x130) true x133.2.1 (lt (pFieldAddr Tryz.prog 34 x133.1 2) x133.2.1)) fun x134 =>
    bnd (gd3 (some x130) true x134.2.1 (lt (pLoad Tryz.prog 32 x134.1 x134.2.1) x134.2.1)) fun x135 =>
    bnd (gd3 (some x130) true x135.2.1 (pBuildSlice Tryz.prog 32 1 #[(0, (.string { data := #[115] }))] x135.2.1)) fun x136 =>
    bnd (gd3 (some x130) true x136.2.1 (inv (.func 37) #[] #[x135.1, x136.1] x136.2.1)) fun x137 =>
    bnd (pickV x130 x137.1 (.bool false)) fun x138 =>
    bnd (gd3 (some x138) true x137.2.1 (some (x6, x137.2.1))) fun x140 =>
    bnd (gd3 (some x138) true x140.2.1 (lt (pIndexAddr Tryz.prog 67 x140.1 (.int .i64 23)) x140.2.1)) fun x141 =>
    bnd (gd3 (some x138) true x141.2.1 (lt (pFieldAddr Tryz.prog 34 x141.1 2) x141.2.1)) fun x142 =>
    bnd (gd3 (some x138) true x142.2.1 (lt (pLoad Tryz.prog 32 x142.1 x142.2.1) x142.2.1)) fun x143 =>
    bnd (gd3 (some x138) true x143.2.1 (lt (pLen Tryz.prog #[32] x143.1 x143.2.1) x143.2.1)) fun x144 =>
    bnd (gd3 (some x138) true x144.2.1 (lt (pBin Tryz.prog .eql 3 (.tmp 144) (.const (.int .i64 0)) x144.1 (.int .i64 0)) x144.2.1)) fun x145 =>
    bnd (pickV x138 x145.1 (.bool false)) fun x146 =>
    bnd (gd3 (some x146) true x145.2.1 (some (x6, x145.2.1))) fun x148 =>
    bnd (gd3 (some x146) true x148.2.1 (lt (pIndexAddr Tryz.prog 67 x148.1 (.int .i64 28)) x148.2.1)) fun x149 =>
    bnd (gd3 (some x146) true x149.2.1 (lt (pFieldAddr Tryz.prog 34 x149.1 1) x149.2.1)) fun x150 =>
    bnd (gd3 (some x146) true x150.2.1 (lt (pLoad Tryz.prog 31 x150.1 x150.2.1) x150.2.1)) fun x151 =>
    bnd (gd3 (some x146) true x151.2.1 (lt (pLen Tryz.prog #[31] x151.1 x151.2.1) x151.2.1)) fun x152 =>
    bnd (gd3 (some x146) true x152.2.1 (lt (pBin Tryz.prog .eql 3 (.tmp 152) (.const (.int .i64 2)) x152.1 (.int .i64 2)) x152.2.1)) fun x153 =>
    bnd (pickV x146 x153.1 (.bool false)) fun x154 =>
    bnd (gd3 (some x154) true x153.2.1 (some (x9, x153.2.1))) fun x156 =>
    bnd (gd3 (some x154) true x156.2.1 (inv (.func 24) #[] #[x156.1] x156.2.1)) fun x157 =>
    bnd (gd3 (some x154) true x157.2.1 (lt (pField Tryz.prog 58 x157.1 0) x157.2.1)) fun x158 =>
    bnd (gd3 (some x154) true x158.2.1 (lt (pLen Tryz.prog #[55] x158.1 x158.2.1) x158.2.1)) fun x159 =>
    bnd (gd3 (some x154) true x159.2.1 (lt (pBin Tryz.prog .eql 3 (.tmp 159) (.const (.int .i64 0)) x159.1 (.int .i64 0)) x159.2.1)) fun x160 =>
    bnd (pickV x154 x160.1 (.bool false)) fun x161 =>
    bnd (gd3 (some x161) true x160.2.1 (some (x9, x160.2.1))) fun x163 =>
    bnd (gd3 (some x161) true x163.2.1 (inv (.func 23) #[] #[x163.1] x163.2.1)) fun x164 =>
    bnd (gd3 (some x161) true x164.2.1 (lt (pField Tryz.prog 58 x164.1 0) x164.2.1)) fun x165 =>
    bnd (gd3 (some x161) true x165.2.1 (lt (pLen Tryz.prog #[55] x165.1 x165.2.1) x165.2.1)) fun x166 =>
    bnd (gd3 (some x161) true x166.2.1 (lt (pBin Tryz.prog .eql 3 (.tmp 166) (.const (.int .i64 1)) x166.1 (.int .i64 1)) x166.2.1)) fun x167 =>
    bnd (pickV x161 x167.1 (.bool false)) fun x168 =>
    bnd (gd3 (some x168) true x167.2.1 (some (x10, x167.2.1))) fun x170 =>
    bnd (gd3 (some x168) true x170.2.1 (inv (.func 24) #[] #[x170.1] x170.2.1)) fun x171 =>
    bnd (gd3 (some x168) true x171.2.1 (lt (pField Tryz.prog 58 x171.1 0) x171.2.1)) fun x172 =>
    bnd (gd3 (some x168) true x172.2.1 (lt (pLen Tryz.prog #[55] x172.1 x172.2.1) x172.2.1)) fun x173 =>
    bnd (gd3 (some x168) true x173.2.1 (lt (pBin Tryz.prog .eql 3 (.tmp 173) (.const (.int .i64 1)) x173.1 (.int .i64 1)) x173.2.1)) fun x174 =>
    bnd (pickV x168 x174.1 (.bool false)) fun x175 =>
    bnd (gd3 (some x175) true x174.2.1 (some (x9, x174.2.1))) fun x177 =>
    bnd (gd3 (some x175) true x177.2.1 (inv (.func 24) #[] #[x177.1] x177.2.1)) fun x178 =>
    bnd (gd3 (some x175) true x178.2.1 (some (x9, x178.2.1))) fun x179 =>
    bnd (gd3 (some x175) true x179.2.1 (inv (.func 23) #[] #[x179.1] x179.2.1)) fun x180 =>
    bnd (gd3 (some x175) true x180.2.1 (inv (.func 25) #[] #[x178.1, x180.1] x180.2.1)) fun x181 =>
    bnd (gd3 (some x175) true x181.2.1 (lt (pUn Tryz.prog .not x181.1) x181.2.1)) fun x182 =>
    bnd (pickV x175 x182.1 (.bool false)) fun x183 =>
    bnd (gd3 (some x183) true x182.2.1 (some (x10, x182.2.1))) fun x185 =>
    bnd (gd3 (some x183) true x185.2.1 (inv (.func 24) #[] #[x185.1] x185.2.1)) fun x186 =>
    bnd (gd3 (some x183) true x186.2.1 (some (x9, x186.2.1))) fun x187 =>
    bnd (gd3 (some x183) true x187.2.1 (inv (.func 23) #[] #[x187.1] x187.2.1)) fun x188 =>
    bnd (gd3 (some x183) true x188.2.1 (inv (.func 25) #[] #[x186.1, x188.1] x188.2.1)) fun x189 =>
    bnd (pickV x183 x189.1 (.bool false)) fun x190 =>
    bnd (gd3 (some x190) true x189.2.1 (some (x6, x189.2.1))) fun x192 =>
    bnd (gd3 (some x190) true x192.2.1 (lt (pIndexAddr Tryz.prog 67 x192.1 (.int .i64 0)) x192.2.1)) fun x193 =>
    bnd (gd3 (some x190) true x193.2.1 (lt (pLoad Tryz.prog 34 x193.1 x193.2.1) x193.2.1)) fun x194 =>
    bnd (gd3 (some x190) true x194.2.1 (lt (pBuild Tryz.prog 34 #[]) x194.2.1)) fun x195 =>
    bnd (gd3 (some x190) true x195.2.1 (inv (.func 22) #[] #[x194.1, x195.1] x195.2.1)) fun x196 =>
    bnd (pickV x190 x196.1 (.bool false)) fun x197 =>
    bnd (gd3 (some x197) true x196.2.1 (some (x6, x196.2.1))) fun x199 =>
    bnd (gd3 (some x197) true x199.2.1 (lt (pIndexAddr Tryz.prog 67 x199.1 (.int .i64 1)) x199.2.1)) fun x200 =>
    bnd (gd3 (some x197) true x200.2.1 (lt (pLoad Tryz.prog 34 x200.1 x200.2.1) x200.2.1)) fun x201 =>
    bnd (gd3 (some x197) true x201.2.1 (some (x6, x201.2.1))) fun x202 =>
    bnd (gd3 (some x197) true x202.2.1 (lt (pIndexAddr Tryz.prog 67 x202.1 (.int .i64 0)) x202.2.1)) fun x203 =>
    bnd (gd3 (some x197) true x203.2.1 (lt (pLoad Tryz.prog 34 x203.1 x203.2.1) x203.2.1)) fun x204 =>
    bnd (gd3 (some x197) true x204.2.1 (inv (.func 22) #[] #[x201.1, x204.1] x204.2.1)) fun x205 =>
    bnd (gd3 (some x197) true x205.2.1 (lt (pUn Tryz.prog .not x205.1) x205.2.1)) fun x206 =>
    bnd (pickV x197 x206.1 (.bool false)) fun x207 =>
    chkK ((!true || !true || (sameO (pLoad Tryz.prog 31 x98 h) x99 && sameO (pLoad Tryz.prog 31 x98 x100.2) x99)) && ((!true || !true || (sameO (pLoad Tryz.prog 31 x98 x100.2) x99 && sameO (pLoad Tryz.prog 31 x98 x101.2) x99)) && ((!x107.2.2 || !x108.2.2 || (sameO (pLoad Tryz.prog 31 x106.1 x107.2.1) x107.1 && sameO (pLoad Tryz.prog 31 x106.1 x108.2.1) x107.1)) && ((!x107.2.2 || !x109.2.2 || (sameO (pLoad Tryz.prog 31 x106.1 x108.2.1) x107.1 && sameO (pLoad Tryz.prog 31 x106.1 x109.2.1) x107.1)) && ((!x107.2.2 || !x110.2.2 || (sameO (pLoad Tryz.prog 31 x106.1 x109.2.1) x107.1 && sameO (pLoad Tryz.prog 31 x106.1 x110.2.1) x107.1)) && ((!x117.2.2 || !x118.2.2 || (sameO (pLoad Tryz.prog 31 x116.1 x117.2.1) x117.1 && sameO (pLoad Tryz.prog 31 x116.1 x118.2.1) x117.1)) && ((!x117.2.2 || !x119.2.2 || (sameO (pLoad Tryz.prog 31 x116.1 x118.2.1) x117.1 && sameO (pLoad Tryz.prog 31 x116.1 x119.2.1) x117.1)) && ((!x117.2.2 || !x120.2.2 || (sameO (pLoad Tryz.prog 31 x116.1 x119.2.1) x117.1 && sameO (pLoad Tryz.prog 31 x116.1 x120.2.1) x117.1)) && ((!x127.2.2 || !x128.2.2 || (sameO (pLoad Tryz.prog 32 x126.1 x127.2.1) x127.1 && sameO (pLoad Tryz.prog 32 x126.1 x128.2.1) x127.1)) && ((!x135.2.2 || !x136.2.2 || (sameO (pLoad Tryz.prog 32 x134.1 x135.2.1) x135.1 && sameO (pLoad Tryz.prog 32 x134.1 x136.2.1) x135.1)) && true)))))))))) <|
    K (x207) x206.2.1
theorem r8_28  : kCode env 8 false inv k (cp c8 8388606) (act 208 [(6, x6), (9, x9), (10, x10)]) h K =
    G8_28 inv x6 x9 x10 h fun y0 h => K .normal (act 208 [(0, y0)]) h := kq_draw
/-- shadowbook/shadowbooklaw21.ModelNames -/
noncomputable def F8 (inv : Inv) (k : Nat) (h : AH) : Option (Value × AH) :=
    bnd (inv (.func 11) #[] #[] h) fun x11 =>
    bnd (pUn Tryz.prog .not x11.1) fun x12 =>
    brV x12
    (some ((.bool false), x11.2))
    (bnd (inv (.func 16) #[] #[(.string { data := #[116] }), (.string { data := #[] })] x11.2) fun x13 =>
    bnd (pAlloc Tryz.prog 40 x13.2) fun x1 =>
    bnd (kSt (pStore Tryz.prog 40 x1.1 x13.1 x1.2)) fun u =>
    bnd (pBuildSlice Tryz.prog 24 1 #[(0, (.int .i64 2))] u.2) fun x14 =>
    bnd (pFieldAddr Tryz.prog 40 x1.1 6) fun x15 =>
    bnd (kSt (pStore Tryz.prog 24 x15 x14.1 x14.2)) fun u_1 =>
    bnd (inv (.func 16) #[] #[(.string { data := #[116] }), (.string { data := #[] })] u_1.2) fun x16 =>
    bnd (pAlloc Tryz.prog 40 x16.2) fun x2 =>
    bnd (kSt (pStore Tryz.prog 40 x2.1 x16.1 x2.2)) fun u_2 =>
    bnd (pBuild Tryz.prog 70 #[(0, (.int .i64 9))]) fun x17 =>
    bnd (pBuildSlice Tryz.prog 23 1 #[(0, x17)] u_2.2) fun x18 =>
    bnd (pFieldAddr Tryz.prog 40 x2.1 5) fun x19 =>
    bnd (kSt (pStore Tryz.prog 23 x19 x18.1 x18.2)) fun u_3 =>
    bnd (inv (.func 16) #[] #[(.string { data := #[116] }), (.string { data := #[115] })] u_3.2) fun x20 =>
    bnd (pAlloc Tryz.prog 40 x20.2) fun x3 =>
    bnd (kSt (pStore Tryz.prog 40 x3.1 x20.1 x3.2)) fun u_4 =>
    bnd (pBuild Tryz.prog 43 #[(0, (.int .i64 1))]) fun x21 =>
    bnd (pBuildSlice Tryz.prog 38 1 #[(0, x21)] u_4.2) fun x22 =>
    bnd (pFieldAddr Tryz.prog 40 x3.1 0) fun x23 =>
    bnd (kSt (pStore Tryz.prog 3 x23 (.int .i64 5) x22.2)) fun u_6 =>
    bnd (pFieldAddr Tryz.prog 40 x3.1 7) fun x24 =>
    bnd (kSt (pStore Tryz.prog 38 x24 x22.1 u_6.2)) fun u_7 =>
    bnd (pLoad Tryz.prog 40 x3.1 u_7.2) fun x25 =>
    bnd (pAlloc Tryz.prog 40 u_7.2) fun x4 =>
    bnd (kSt (pStore Tryz.prog 40 x4.1 x25 x4.2)) fun u_8 =>
    bnd (pFieldAddr Tryz.prog 40 x4.1 7) fun x26 =>
    bnd (kSt (pStore Tryz.prog 38 x26 (.slice none 0 0) u_8.2)) fun u_9 =>
    bnd (inv (.func 16) #[] #[(.string { data := #[116] }), (.string { data := #[] })] u_9.2) fun x27 =>
    bnd (pAlloc Tryz.prog 40 x27.2) fun x5 =>
    bnd (kSt (pStore Tryz.prog 40 x5.1 x27.1 x5.2)) fun u_10 =>
    bnd (pBuildSlice Tryz.prog 24 1 #[(0, (.int .i64 1))] u_10.2) fun x28 =>
    bnd (inv (.func 32) #[] #[(.int .i64 1)] x28.2) fun x29 =>
    bnd (pFieldAddr Tryz.prog 40 x5.1 6) fun x30 =>
    bnd (kSt (pStore Tryz.prog 24 x30 x28.1 x29.2)) fun u_12 =>
    bnd (pFieldAddr Tryz.prog 40 x5.1 5) fun x31 =>
    bnd (kSt (pStore Tryz.prog 23 x31 x29.1 u_12.2)) fun u_13 =>
    G8_13 inv x1.1 x2.1 x3.1 x4.1 x5.1 u_13.2 fun y6 h =>
    G8_14 inv y6 h fun y7 h_14 =>
    bnd (pLen Tryz.prog #[67] y6 h_14) fun x65 =>
    bnd (pLen Tryz.prog #[74] y7 h_14) fun x67 =>
    bnd (pBin Tryz.prog .neq 3 (.tmp 65) (.tmp 67) x65 x67) fun x68 =>
    brV x68
    (some ((.bool false), h_14))
    (F8_lrlrrrrrrrrrrrrrrr inv k k y6 y7 (.int .i64 0) h_14
    (fun y6_15 y7_16 y8 y72 h_17 =>
    bnd (inv (.func 14) #[] #[] h_17) fun x85 =>
    bnd (pBin Tryz.prog .eql 28 (.tmp 86) (.const (.pointer none)) x85.1 (.pointer none)) fun x87 =>
    brV x87
    (some ((.bool false), x85.2))
    (bnd (inv (.func 33) #[] #[(.string { data := #[116] })] x85.2) fun x89 =>
    bnd (inv (.func 15) #[] #[x85.1, x89.1] x89.2) fun x90 =>
    bnd (inv (.func 35) #[] #[x85.1] x90.2) fun x92 =>
    bnd (inv (.func 21) #[] #[(.int .i64 6), (.string { data := #[] })] x92.2) fun x94 =>
    bnd (inv (.func 15) #[] #[x92.1, x94.1] x94.2) fun x95 =>
    G8_28 inv y6_15 x85.1 x92.1 x95.2 fun y0 h_18 =>
    some (y0, h_18)))
    (fun y0_19 h_20 =>
    some (y0_19, h_20))))
theorem F8_eq : eFun env k inv 8 #[] h = F8 inv k  h := by
      refine (kq_fun (a := act 208 []) (c := cp c8 1)).trans ?_
      unfold F8
      simp only [kq_seq c8 1, r8_0, kq_seq c8 3, kq_seq c8 6, r8_1, b8_rlr, kq_seq c8 26, r8_2, kq_ret c8 53, res8_0, kq_skip c8 27, kq_seq c8 7, r8_3, kq_seq c8 15, r8_4, kq_seq c8 31, r8_5, kq_seq c8 63, r8_6, kq_seq c8 127, r8_7, kq_seq c8 255, r8_8, kq_seq c8 511, r8_9, kq_seq c8 1023, r8_10, kq_seq c8 2047, r8_11, kq_seq c8 4095, r8_12, kq_seq c8 8191, r8_13, kq_seq c8 16383, r8_14, kq_seq c8 32767, kq_seq c8 65534, r8_15, b8_rlrrrrrrrrrrrrrr, kq_seq c8 262138, r8_16, kq_ret c8 524277, kq_skip c8 262139, kq_seq c8 65535, kq_seq c8 131070, r8_17, kq_block c8 262141 0, F8_lrlrrrrrrrrrrrrrrr_eq, kq_seq c8 131071, r8_22, kq_seq c8 262143, kq_seq c8 524286, r8_23, b8_rlrrrrrrrrrrrrrrrrr, kq_seq c8 2097146, r8_24, kq_ret c8 4194293, kq_skip c8 2097147, kq_seq c8 524287, r8_25, kq_seq c8 1048575, r8_26, kq_seq c8 2097151, r8_27, kq_seq c8 4194303, r8_28, kq_ret c8 8388607, reduceIte, reduceCtorEq, XE.exit.injEq, Nat.reduceEqDiff, Nat.reduceMul, Nat.reduceAdd] <;> kernel_rfl
theorem F8_call : eInv env (k + 1) (.func 8) #[] #[] h = F8 (eInv env k) k  h := kq_inv F8_eq
noncomputable def c11 : Code := codeOf Tryz.prog 11
theorem r11_0  : kCode env 11 false inv k (cp c11 2) (act 34 []) h K =
    K .normal (act 34 []) h := kq_reg
noncomputable abbrev G11_1 {β : Type} (inv : Inv) (h : AH) (K : Value → AH → Option β) : Option β :=
    bnd (inv (.func 33) #[] #[(.string { data := #[116] })] h) fun x2 =>
    bnd (inv (.func 21) #[] #[(.int .i64 6), (.string { data := #[] })] x2.2) fun x3 =>
    bnd (inv (.func 34) #[] #[(.string { data := #[116] }), (.string { data := #[97] }), (.int .i64 1)] x3.2) fun x4 =>
    bnd (inv (.func 21) #[] #[(.int .i64 7), (.string { data := #[] })] x4.2) fun x5 =>
    bnd (inv (.func 16) #[] #[(.string { data := #[116] }), (.string { data := #[] })] x5.2) fun x6 =>
    bnd (pBuildSlice Tryz.prog 22 5 #[(0, x2.1), (1, x3.1), (2, x4.1), (3, x5.1), (4, x6.1)] x6.2) fun x7 =>
    bnd (inv (.func 30) #[] #[x7.1] x7.2) fun x8 =>
    K (x8.1) x8.2
theorem r11_1  : kCode env 11 false inv k (cp c11 6) (act 34 []) h K =
    G11_1 inv  h fun y1 h => K .normal (act 34 [(1, y1)]) h := kq_reg
noncomputable abbrev G11_2 {β : Type} (inv : Inv) (x1 : Value) (h : AH) (K : Value → AH → Option β) : Option β :=
    bnd (pLen Tryz.prog #[67] x1 h) fun x10 =>
    bnd (pBin Tryz.prog .eql 3 (.tmp 10) (.const (.int .i64 5)) x10 (.int .i64 5)) fun x11 =>
    bnd (gd (some x11) true h (some (x1, h))) fun x13 =>
    bnd (gd (some x11) true x13.2 (lt (pIndexAddr Tryz.prog 67 x13.1 (.int .i64 2)) x13.2)) fun x14 =>
    bnd (gd (some x11) true x14.2 (lt (pFieldAddr Tryz.prog 34 x14.1 3) x14.2)) fun x15 =>
    bnd (gd (some x11) true x15.2 (lt (pLoad Tryz.prog 3 x15.1 x15.2) x15.2)) fun x16 =>
    bnd (gd (some x11) true x16.2 (lt (pBin Tryz.prog .eql 3 (.tmp 16) (.const (.int .i64 1)) x16.1 (.int .i64 1)) x16.2)) fun x17 =>
    bnd (pickV x11 x17.1 (.bool false)) fun x18 =>
    bnd (gd (some x18) true x17.2 (some (x1, x17.2))) fun x20 =>
    bnd (gd (some x18) true x20.2 (lt (pIndexAddr Tryz.prog 67 x20.1 (.int .i64 4)) x20.2)) fun x21 =>
    bnd (gd (some x18) true x21.2 (lt (pFieldAddr Tryz.prog 34 x21.1 0) x21.2)) fun x22 =>
    bnd (gd (some x18) true x22.2 (lt (pLoad Tryz.prog 30 x22.1 x22.2) x22.2)) fun x23 =>
    bnd (gd (some x18) true x23.2 (lt (pBin Tryz.prog .eql 30 (.tmp 23) (.const (.int .i64 0)) x23.1 (.int .i64 0)) x23.2)) fun x24 =>
    bnd (pickV x18 x24.1 (.bool false)) fun x25 =>
    bnd (gd (some x25) true x24.2 (some (x1, x24.2))) fun x27 =>
    bnd (gd (some x25) true x27.2 (lt (pIndexAddr Tryz.prog 67 x27.1 (.int .i64 4)) x27.2)) fun x28 =>
    bnd (gd (some x25) true x28.2 (lt (pFieldAddr Tryz.prog 34 x28.1 1) x28.2)) fun x29 =>
    bnd (gd (some x25) true x29.2 (lt (pLoad Tryz.prog 31 x29.1 x29.2) x29.2)) fun x30 =>
    bnd (gd (some x25) true x30.2 (lt (pLen Tryz.prog #[31] x30.1 x30.2) x30.2)) fun x31 =>
    bnd (gd (some x25) true x31.2 (lt (pBin Tryz.prog .eql 3 (.tmp 31) (.const (.int .i64 0)) x31.1 (.int .i64 0)) x31.2)) fun x32 =>
    bnd (pickV x25 x32.1 (.bool false)) fun x33 =>
    K (x33) x32.2
theorem r11_2  : kCode env 11 false inv k (cp c11 14) (act 34 [(1, x1)]) h K =
    G11_2 inv x1 h fun y0 h => K .normal (act 34 [(0, y0)]) h := kq_reg
theorem res11_0 : resOfFn env.P 11 .ret (act 34 [(0, x0)]) h = some (x0, h) := kq_res
/-- shadowbook/shadowbooklaw21.lives -/
noncomputable def F11 (inv : Inv) (k : Nat) (h : AH) : Option (Value × AH) :=
    G11_1 inv  h fun y1 h =>
    G11_2 inv y1 h fun y0 h_1 =>
    some (y0, h_1)
theorem F11_eq : eFun env k inv 11 #[] h = F11 inv k  h := by
      refine (kq_fun (a := act 34 []) (c := cp c11 1)).trans ?_
      unfold F11
      simp only [kq_seq c11 1, r11_0, kq_seq c11 3, r11_1, kq_seq c11 7, r11_2, kq_ret c11 15, res11_0, reduceIte, reduceCtorEq, XE.exit.injEq, Nat.reduceEqDiff, Nat.reduceMul, Nat.reduceAdd] <;> kernel_rfl
theorem F11_call : eInv env (k + 1) (.func 11) #[] #[] h = F11 (eInv env k) k  h := kq_inv F11_eq
noncomputable def c14 : Code := codeOf Tryz.prog 14
theorem r14_0  : kCode env 14 false inv k (cp c14 2) (act 3 []) h K =
    K .normal (act 3 []) h := kq_reg
theorem r14_1  : kCode env 14 false inv k (cp c14 6) (act 3 []) h K =
    bnd (pBuild Tryz.prog 85 #[]) fun x1 =>
    bnd (pBox Tryz.prog 85 x1 h) fun x2 =>
    K .normal (act 3 [(0, x2.1)]) x2.2 := kq_reg
theorem res14_0 : resOfFn env.P 14 .ret (act 3 [(0, x0)]) h = some (x0, h) := kq_res
/-- shadowbook/model.New -/
noncomputable def F14 (inv : Inv) (k : Nat) (h : AH) : Option (Value × AH) :=
    bnd (pBuild Tryz.prog 85 #[]) fun x1 =>
    bnd (pBox Tryz.prog 85 x1 h) fun x2 =>
    some (x2.1, x2.2)
theorem F14_eq : eFun env k inv 14 #[] h = F14 inv k  h := by
      refine (kq_fun (a := act 3 []) (c := cp c14 1)).trans ?_
      unfold F14
      simp only [kq_seq c14 1, r14_0, kq_seq c14 3, r14_1, kq_ret c14 7, res14_0, reduceIte, reduceCtorEq, XE.exit.injEq, Nat.reduceEqDiff, Nat.reduceMul, Nat.reduceAdd] <;> kernel_rfl
theorem F14_call : eInv env (k + 1) (.func 14) #[] #[] h = F14 (eInv env k) k  h := kq_inv F14_eq
noncomputable def c15 : Code := codeOf Tryz.prog 15
theorem r15_0  : kCode env 15 false inv k (cp c15 2) (act 24 [(0, x0), (1, x1)]) h K =
    bnd (pBox Tryz.prog 40 x1 h) fun x3 =>
    bnd (pAlloc Tryz.prog 34 x3.2) fun x4 =>
    K .normal (act 24 [(0, x0), (3, x3.1), (4, x4.1)]) x4.2 := kq_reg
theorem r15_1  : kCode env 15 false inv k (cp c15 12) (act 24 [(0, x0), (3, x3), (4, x4)]) h K =
    bnd (pBin Tryz.prog .eql 28 (.tmp 7) (.const (.pointer none)) x0 (.pointer none)) fun x8 =>
    K .normal (act 24 [(0, x0), (3, x3), (4, x4), (8, x8)]) h := kq_reg
theorem b15_rlr  : kCode env 15 false inv k (cp c15 13) (act 24 [(0, x0), (3, x3), (4, x4), (8, x8)]) h K = brV x8 (kCode env 15 false inv k (cp c15 26) (act 24 [(0, x0), (3, x3), (4, x4), (8, x8)]) h K) (kCode env 15 false inv k (cp c15 27) (act 24 [(0, x0), (3, x3), (4, x4), (8, x8)]) h K) := kq_cond
theorem r15_2  : kCode env 15 false inv k (cp c15 52) (act 24 [(0, x0), (3, x3), (4, x4), (8, x8)]) h K =
    bnd (inv (.func 39) #[] #[(.int .i64 1)] h) fun x9 =>
    bnd (kSt (pStore Tryz.prog 34 x4 x9.1 x9.2)) fun u =>
    K .normal (act 24 [(4, x4)]) u.2 := kq_reg
theorem res15_0 : resOfFn env.P 15 .ret (act 24 [(4, x4)]) h = bnd (pLoad Tryz.prog 34 x4 h) fun q0 =>
    some (q0, h) := kq_res
theorem r15_3  : kCode env 15 false inv k (cp c15 14) (act 24 [(0, x0), (3, x3), (4, x4), (8, x8)]) h K =
    bnd (inv (.func 40) #[] #[] h) fun x11 =>
    bnd (pFieldAddr Tryz.prog 40 x3 0) fun x12 =>
    bnd (pLoad Tryz.prog 3 x12 x11.2) fun x13 =>
    bnd (pLookup Tryz.prog 89 x11.1 x13 true x11.2) fun x14 =>
    bnd (pExtract x14 0) fun x15 =>
    bnd (pExtract x14 1) fun x16 =>
    chkK ((!true || !true || (sameO (pLoad Tryz.prog 3 x12 h) x13 && sameO (pLoad Tryz.prog 3 x12 x11.2) x13)) && true) <|
    K .normal (act 24 [(0, x0), (3, x3), (4, x4), (5, x15), (6, x16)]) x11.2 := kq_draw
theorem r15_4  : kCode env 15 false inv k (cp c15 60) (act 24 [(0, x0), (3, x3), (4, x4), (5, x5), (6, x6)]) h K =
    bnd (pUn Tryz.prog .not x6) fun x18 =>
    K .normal (act 24 [(0, x0), (3, x3), (4, x4), (5, x5), (18, x18)]) h := kq_reg
theorem b15_rlrrr  : kCode env 15 false inv k (cp c15 61) (act 24 [(0, x0), (3, x3), (4, x4), (5, x5), (18, x18)]) h K = brV x18 (kCode env 15 false inv k (cp c15 122) (act 24 [(0, x0), (3, x3), (4, x4), (5, x5), (18, x18)]) h K) (kCode env 15 false inv k (cp c15 123) (act 24 [(0, x0), (3, x3), (4, x4), (5, x5), (18, x18)]) h K) := kq_cond
theorem r15_5  : kCode env 15 false inv k (cp c15 244) (act 24 [(0, x0), (3, x3), (4, x4), (5, x5), (18, x18)]) h K =
    bnd (inv (.func 39) #[] #[(.int .i64 212)] h) fun x19 =>
    bnd (kSt (pStore Tryz.prog 34 x4 x19.1 x19.2)) fun u =>
    K .normal (act 24 [(4, x4)]) u.2 := kq_reg
theorem r15_6  : kCode env 15 false inv k (cp c15 62) (act 24 [(0, x0), (3, x3), (4, x4), (5, x5), (18, x18)]) h K =
    bnd (pLoad Tryz.prog 40 x3 h) fun x22 =>
    bnd (callV inv x5 #[x0, x22] h) fun x23 =>
    bnd (kSt (pStore Tryz.prog 34 x4 x23.1 x23.2)) fun u =>
    K .normal (act 24 [(4, x4)]) u.2 := kq_reg
/-- (*shadowbook/model.Model).Do -/
noncomputable def F15 (inv : Inv) (k : Nat) (x0 x1 : Value) (h : AH) : Option (Value × AH) :=
    bnd (pBox Tryz.prog 40 x1 h) fun x3 =>
    bnd (pAlloc Tryz.prog 34 x3.2) fun x4 =>
    bnd (pBin Tryz.prog .eql 28 (.tmp 7) (.const (.pointer none)) x0 (.pointer none)) fun x8 =>
    brV x8
    (bnd (inv (.func 39) #[] #[(.int .i64 1)] x4.2) fun x9 =>
    bnd (kSt (pStore Tryz.prog 34 x4.1 x9.1 x9.2)) fun u =>
    bnd (pLoad Tryz.prog 34 x4.1 u.2) fun q0 =>
    some (q0, u.2))
    (bnd (inv (.func 40) #[] #[] x4.2) fun x11 =>
    bnd (pFieldAddr Tryz.prog 40 x3.1 0) fun x12 =>
    bnd (pLoad Tryz.prog 3 x12 x11.2) fun x13 =>
    bnd (pLookup Tryz.prog 89 x11.1 x13 true x11.2) fun x14 =>
    bnd (pExtract x14 0) fun x15 =>
    bnd (pExtract x14 1) fun x16 =>
    chkK ((!true || !true || (sameO (pLoad Tryz.prog 3 x12 x4.2) x13 && sameO (pLoad Tryz.prog 3 x12 x11.2) x13)) && true) <|
    bnd (pUn Tryz.prog .not x16) fun x18 =>
    brV x18
    (bnd (inv (.func 39) #[] #[(.int .i64 212)] x11.2) fun x19 =>
    bnd (kSt (pStore Tryz.prog 34 x4.1 x19.1 x19.2)) fun u_1 =>
    bnd (pLoad Tryz.prog 34 x4.1 u_1.2) fun q0 =>
    some (q0, u_1.2))
    (bnd (pLoad Tryz.prog 40 x3.1 x11.2) fun x22 =>
    bnd (callV inv x15 #[x0, x22] x11.2) fun x23 =>
    bnd (kSt (pStore Tryz.prog 34 x4.1 x23.1 x23.2)) fun u_2 =>
    bnd (pLoad Tryz.prog 34 x4.1 u_2.2) fun q0 =>
    some (q0, u_2.2)))
theorem F15_eq : eFun env k inv 15 #[x0, x1] h = F15 inv k x0 x1 h := by
      refine (kq_fun (a := act 24 [(0, x0), (1, x1)]) (c := cp c15 1)).trans ?_
      unfold F15
      simp only [kq_seq c15 1, r15_0, kq_seq c15 3, kq_seq c15 6, r15_1, b15_rlr, kq_seq c15 26, r15_2, kq_ret c15 53, res15_0, kq_skip c15 27, kq_seq c15 7, r15_3, kq_seq c15 15, kq_seq c15 30, r15_4, b15_rlrrr, kq_seq c15 122, r15_5, kq_ret c15 245, kq_skip c15 123, kq_seq c15 31, r15_6, kq_ret c15 63, reduceIte, reduceCtorEq, XE.exit.injEq, Nat.reduceEqDiff, Nat.reduceMul, Nat.reduceAdd] <;> kernel_rfl
theorem F15_call : eInv env (k + 1) (.func 15) #[] #[x0, x1] h = F15 (eInv env k) k x0 x1 h := kq_inv F15_eq
noncomputable def c16 : Code := codeOf Tryz.prog 16
theorem r16_0  : kCode env 16 false inv k (cp c16 2) (act 8 [(0, x0), (1, x1)]) h K =
    bnd (pAlloc Tryz.prog 40 h) fun x4 =>
    K .normal (act 8 [(0, x0), (1, x1), (4, x4.1)]) x4.2 := kq_reg
theorem r16_1  : kCode env 16 false inv k (cp c16 6) (act 8 [(0, x0), (1, x1), (4, x4)]) h K =
    bnd (pBuild Tryz.prog 40 #[(0, (.int .i64 4)), (1, x0), (2, x1)]) fun x7 =>
    bnd (kSt (pStore Tryz.prog 40 x4 x7 h)) fun u =>
    K .normal (act 8 [(4, x4)]) u.2 := kq_reg
theorem res16_0 : resOfFn env.P 16 .ret (act 8 [(4, x4)]) h = bnd (pLoad Tryz.prog 40 x4 h) fun q0 =>
    some (q0, h) := kq_res
/-- shadowbook/shadowbooklaw21.scan -/
noncomputable def F16 (inv : Inv) (k : Nat) (x0 x1 : Value) (h : AH) : Option (Value × AH) :=
    bnd (pAlloc Tryz.prog 40 h) fun x4 =>
    bnd (pBuild Tryz.prog 40 #[(0, (.int .i64 4)), (1, x0), (2, x1)]) fun x7 =>
    bnd (kSt (pStore Tryz.prog 40 x4.1 x7 x4.2)) fun u =>
    bnd (pLoad Tryz.prog 40 x4.1 u.2) fun q0 =>
    some (q0, u.2)
theorem F16_eq : eFun env k inv 16 #[x0, x1] h = F16 inv k x0 x1 h := by
      refine (kq_fun (a := act 8 [(0, x0), (1, x1)]) (c := cp c16 1)).trans ?_
      unfold F16
      simp only [kq_seq c16 1, r16_0, kq_seq c16 3, r16_1, kq_ret c16 7, res16_0, reduceIte, reduceCtorEq, XE.exit.injEq, Nat.reduceEqDiff, Nat.reduceMul, Nat.reduceAdd] <;> kernel_rfl
theorem F16_call : eInv env (k + 1) (.func 16) #[] #[x0, x1] h = F16 (eInv env k) k x0 x1 h := kq_inv F16_eq
noncomputable def c19 : Code := codeOf Tryz.prog 19
theorem r19_0  : kCode env 19 false inv k (cp c19 2) (act 53 [(0, x0), (1, x1)]) h K =
    K .normal (act 53 [(0, x0), (1, x1)]) h := kq_reg
theorem r19_1  : kCode env 19 false inv k (cp c19 12) (act 53 [(0, x0), (1, x1)]) h K =
    bnd (pLen Tryz.prog #[31] x0 h) fun x8 =>
    bnd (pLen Tryz.prog #[31] x1 h) fun x10 =>
    bnd (pBin Tryz.prog .neq 3 (.tmp 8) (.tmp 10) x8 x10) fun x11 =>
    K .normal (act 53 [(0, x0), (1, x1), (11, x11)]) h := kq_reg
theorem b19_rlr  : kCode env 19 false inv k (cp c19 13) (act 53 [(0, x0), (1, x1), (11, x11)]) h K = brV x11 (kCode env 19 false inv k (cp c19 26) (act 53 [(0, x0), (1, x1), (11, x11)]) h K) (kCode env 19 false inv k (cp c19 27) (act 53 [(0, x0), (1, x1), (11, x11)]) h K) := kq_cond
theorem r19_2  : kCode env 19 false inv k (cp c19 52) (act 53 [(0, x0), (1, x1), (11, x11)]) h K =
    K .normal (act 53 [(4, (.bool false))]) h := kq_reg
theorem res19_0 : resOfFn env.P 19 .ret (act 53 [(4, x4)]) h = some (x4, h) := kq_res
theorem r19_3  : kCode env 19 false inv k (cp c19 28) (act 53 [(0, x0), (1, x1), (11, x11)]) h K =
    K .normal (act 53 [(0, x0), (1, x1), (5, (.int .i64 0))]) h := kq_reg
theorem r19_4  : kCode env 19 false inv k (cp c19 464) (act 53 [(0, x0), (1, x1), (5, x5)]) h K =
    bnd (pLen Tryz.prog #[31] x0 h) fun x14 =>
    bnd (pBin Tryz.prog .lss 3 (.tmp 12) (.tmp 14) x5 x14) fun x15 =>
    K .normal (act 53 [(0, x0), (1, x1), (5, x5), (15, x15)]) h := kq_reg
theorem b19_rlllrlrr  : kCode env 19 false inv k (cp c19 465) (act 53 [(0, x0), (1, x1), (5, x5), (15, x15)]) h K = brV x15 (kCode env 19 false inv k (cp c19 930) (act 53 [(0, x0), (1, x1), (5, x5), (15, x15)]) h K) (kCode env 19 false inv k (cp c19 931) (act 53 [(0, x0), (1, x1), (5, x5), (15, x15)]) h K) := kq_cond
theorem r19_6  : kCode env 19 false inv k (cp c19 3728) (act 53 [(0, x0), (1, x1), (5, x5), (15, x15)]) h K =
    bnd (pIndexAddr Tryz.prog 31 x0 x5) fun x20 =>
    bnd (pLoad Tryz.prog 45 x20 h) fun x21 =>
    bnd (pLen Tryz.prog #[45] x21 h) fun x22 =>
    bnd (pIndexAddr Tryz.prog 31 x1 x5) fun x25 =>
    bnd (pLoad Tryz.prog 45 x25 h) fun x26 =>
    bnd (pLen Tryz.prog #[45] x26 h) fun x27 =>
    bnd (pBin Tryz.prog .neq 3 (.tmp 22) (.tmp 27) x22 x27) fun x28 =>
    K .normal (act 53 [(0, x0), (1, x1), (5, x5), (28, x28)]) h := kq_draw
theorem b19_rlllrllrlrr  : kCode env 19 false inv k (cp c19 3729) (act 53 [(0, x0), (1, x1), (5, x5), (28, x28)]) h K = brV x28 (kCode env 19 false inv k (cp c19 7458) (act 53 [(0, x0), (1, x1), (5, x5), (28, x28)]) h K) (kCode env 19 false inv k (cp c19 7459) (act 53 [(0, x0), (1, x1), (5, x5), (28, x28)]) h K) := kq_cond
theorem r19_7  : kCode env 19 false inv k (cp c19 14916) (act 53 [(0, x0), (1, x1), (5, x5), (28, x28)]) h K =
    K .normal (act 53 [(4, (.bool false))]) h := kq_reg
theorem r19_8  : kCode env 19 false inv k (cp c19 3730) (act 53 [(0, x0), (1, x1), (5, x5), (28, x28)]) h K =
    K .normal (act 53 [(0, x0), (1, x1), (5, x5), (6, (.int .i64 0))]) h := kq_reg
theorem r19_9  : kCode env 19 false inv k (cp c19 59696) (act 53 [(0, x0), (1, x1), (5, x5), (6, x6)]) h K =
    bnd (pIndexAddr Tryz.prog 31 x0 x5) fun x32 =>
    bnd (pLoad Tryz.prog 45 x32 h) fun x33 =>
    bnd (pLen Tryz.prog #[45] x33 h) fun x34 =>
    bnd (pBin Tryz.prog .lss 3 (.tmp 29) (.tmp 34) x6 x34) fun x35 =>
    K .normal (act 53 [(0, x0), (1, x1), (5, x5), (6, x6), (35, x35)]) h := kq_reg
theorem b19_rlllrrllrllrlrr  : kCode env 19 false inv k (cp c19 59697) (act 53 [(0, x0), (1, x1), (5, x5), (6, x6), (35, x35)]) h K = brV x35 (kCode env 19 false inv k (cp c19 119394) (act 53 [(0, x0), (1, x1), (5, x5), (6, x6), (35, x35)]) h K) (kCode env 19 false inv k (cp c19 119395) (act 53 [(0, x0), (1, x1), (5, x5), (6, x6), (35, x35)]) h K) := kq_cond
noncomputable abbrev G19_11 {β : Type} (inv : Inv) (x0 x1 x5 x6 : Value) (h : AH) (K : Value → AH → Option β) : Option β :=
    bnd (pIndexAddr Tryz.prog 31 x0 x5) fun x40 =>
    bnd (pLoad Tryz.prog 45 x40 h) fun x41 =>
    bnd (pIndexAddr Tryz.prog 45 x41 x6) fun x43 =>
    bnd (pLoad Tryz.prog 49 x43 h) fun x44 =>
    bnd (pIndexAddr Tryz.prog 31 x1 x5) fun x47 =>
    bnd (pLoad Tryz.prog 45 x47 h) fun x48 =>
    bnd (pIndexAddr Tryz.prog 45 x48 x6) fun x50 =>
    bnd (pLoad Tryz.prog 49 x50 h) fun x51 =>
    bnd (pBin Tryz.prog .neq 49 (.tmp 44) (.tmp 51) x44 x51) fun x52 =>
    K (x52) h
theorem r19_11  : kCode env 19 false inv k (cp c19 238792) (act 53 [(0, x0), (1, x1), (5, x5), (6, x6), (35, x35)]) h K =
    G19_11 inv x0 x1 x5 x6 h fun y52 h => K .normal (act 53 [(0, x0), (1, x1), (5, x5), (6, x6), (52, y52)]) h := kq_draw
theorem b19_rllrllrrllrllrlrr  : kCode env 19 false inv k (cp c19 238793) (act 53 [(0, x0), (1, x1), (5, x5), (6, x6), (52, x52)]) h K = brV x52 (kCode env 19 false inv k (cp c19 477586) (act 53 [(0, x0), (1, x1), (5, x5), (6, x6), (52, x52)]) h K) (kCode env 19 false inv k (cp c19 477587) (act 53 [(0, x0), (1, x1), (5, x5), (6, x6), (52, x52)]) h K) := kq_cond
theorem r19_12  : kCode env 19 false inv k (cp c19 955172) (act 53 [(0, x0), (1, x1), (5, x5), (6, x6), (52, x52)]) h K =
    K .normal (act 53 [(4, (.bool false))]) h := kq_reg
theorem r19_10  : kCode env 19 false inv k (cp c19 59699) (act 53 [(0, x0), (1, x1), (5, x5), (6, x6), (52, x52)]) h K =
    bnd (pBin Tryz.prog .add 3 (.tmp 36) (.const (.int .i64 1)) x6 (.int .i64 1)) fun x37 =>
    K .normal (act 53 [(0, x0), (1, x1), (5, x5), (6, x37)]) h := kq_reg
noncomputable def F19_lrrllrllrlrr {β : Type} (inv : Inv) (k : Nat) : Nat → Value → Value → Value → Value → AH → (Value → Value → Value → Value → Value → AH → Option β) → (Value → AH → Option β) → Option β
  | 0, _, _, _, _, _, _, _ => none
  | j + 1, x0, x1, x5, x6, h, ke2, kr =>
    bnd (pIndexAddr Tryz.prog 31 x0 x5) fun x32 =>
    bnd (pLoad Tryz.prog 45 x32 h) fun x33 =>
    bnd (pLen Tryz.prog #[45] x33 h) fun x34 =>
    bnd (pBin Tryz.prog .lss 3 (.tmp 29) (.tmp 34) x6 x34) fun x35 =>
    brV x35
    (G19_11 inv x0 x1 x5 x6 h fun y52 h =>
    brV y52
    (kr (.bool false) h)
    (bnd (pBin Tryz.prog .add 3 (.tmp 36) (.const (.int .i64 1)) x6 (.int .i64 1)) fun x37 =>
    F19_lrrllrllrlrr inv k j x0 x1 x5 x37 h ke2 kr))
    (ke2 x0 x1 x5 x6 x35 h)
theorem F19_lrrllrllrlrr_j (j : Nat) : kLoop (kCode env 19 false inv k (cp c19 14924)) j (act 53 [(0, x0), (1, x1), (5, x5), (6, x6)]) h K = F19_lrrllrllrlrr inv k j x0 x1 x5 x6 h (fun y0 y1 y5 y6 y35 h => K (.exit 2) (act 53 [(0, y0), (1, y1), (5, y5), (6, y6), (35, y35)]) h) (fun y4 h => K .ret (act 53 [(4, y4)]) h) := by
      induction j generalizing x0 x1 x5 x6 h with
      | zero => rfl
      | succ j ih =>
        unfold F19_lrrllrllrlrr
        simp only [kLoop, kq_seq c19 14924, kq_seq c19 29848, r19_9, b19_rlllrrllrllrlrr, kq_skip c19 119394, kq_seq c19 29849, kq_block c19 59698 3, kq_seq c19 119396, r19_11, b19_rllrllrrllrllrlrr, kq_seq c19 477586, r19_12, kq_ret c19 955173, kq_skip c19 477587, r19_10, kq_exit c19 119395 2, ih, reduceIte, reduceCtorEq, XE.exit.injEq, Nat.reduceEqDiff, Nat.reduceMul, Nat.reduceAdd] <;> kernel_rfl
theorem F19_lrrllrllrlrr_eq  : kCode env 19 false inv k (cp c19 7462) (act 53 [(0, x0), (1, x1), (5, x5), (6, x6)]) h K = F19_lrrllrllrlrr inv k k x0 x1 x5 x6 h (fun y0 y1 y5 y6 y35 h => K (.exit 2) (act 53 [(0, y0), (1, y1), (5, y5), (6, y6), (35, y35)]) h) (fun y4 h => K .ret (act 53 [(4, y4)]) h) := kq_loop (F19_lrrllrllrlrr_j k)
theorem r19_5  : kCode env 19 false inv k (cp c19 467) (act 53 [(0, x0), (1, x1), (5, x5), (6, x6), (35, x35)]) h K =
    bnd (pBin Tryz.prog .add 3 (.tmp 16) (.const (.int .i64 1)) x5 (.int .i64 1)) fun x17 =>
    K .normal (act 53 [(0, x0), (1, x1), (5, x17)]) h := kq_reg
noncomputable def F19_lrlrr {β : Type} (inv : Inv) (k : Nat) : Nat → Value → Value → Value → AH → (Value → Value → Value → Value → AH → Option β) → (Value → AH → Option β) → Option β
  | 0, _, _, _, _, _, _ => none
  | j + 1, x0, x1, x5, h, ke0, kr =>
    bnd (pLen Tryz.prog #[31] x0 h) fun x14 =>
    bnd (pBin Tryz.prog .lss 3 (.tmp 12) (.tmp 14) x5 x14) fun x15 =>
    brV x15
    (bnd (pIndexAddr Tryz.prog 31 x0 x5) fun x20 =>
    bnd (pLoad Tryz.prog 45 x20 h) fun x21 =>
    bnd (pLen Tryz.prog #[45] x21 h) fun x22 =>
    bnd (pIndexAddr Tryz.prog 31 x1 x5) fun x25 =>
    bnd (pLoad Tryz.prog 45 x25 h) fun x26 =>
    bnd (pLen Tryz.prog #[45] x26 h) fun x27 =>
    bnd (pBin Tryz.prog .neq 3 (.tmp 22) (.tmp 27) x22 x27) fun x28 =>
    brV x28
    (kr (.bool false) h)
    (F19_lrrllrllrlrr inv k k x0 x1 x5 (.int .i64 0) h
    (fun y0 y1 y5 y6 y35 h =>
    bnd (pBin Tryz.prog .add 3 (.tmp 16) (.const (.int .i64 1)) y5 (.int .i64 1)) fun x17 =>
    F19_lrlrr inv k j y0 y1 x17 h ke0 kr)
    (fun y4 h_1 =>
    kr y4 h_1)))
    (ke0 x0 x1 x5 x15 h)
theorem F19_lrlrr_j (j : Nat) : kLoop (kCode env 19 false inv k (cp c19 116)) j (act 53 [(0, x0), (1, x1), (5, x5)]) h K = F19_lrlrr inv k j x0 x1 x5 h (fun y0 y1 y5 y15 h => K (.exit 0) (act 53 [(0, y0), (1, y1), (5, y5), (15, y15)]) h) (fun y4 h => K .ret (act 53 [(4, y4)]) h) := by
      induction j generalizing x0 x1 x5 h with
      | zero => rfl
      | succ j ih =>
        unfold F19_lrlrr
        simp only [kLoop, kq_seq c19 116, kq_seq c19 232, r19_4, b19_rlllrlrr, kq_skip c19 930, kq_seq c19 233, kq_block c19 466 1, kq_seq c19 932, kq_seq c19 1864, r19_6, b19_rlllrllrlrr, kq_seq c19 7458, r19_7, kq_ret c19 14917, kq_skip c19 7459, kq_seq c19 1865, r19_8, kq_block c19 3731 2, F19_lrrllrllrlrr_eq, r19_5, kq_exit c19 931 0, ih, reduceIte, reduceCtorEq, XE.exit.injEq, Nat.reduceEqDiff, Nat.reduceMul, Nat.reduceAdd] <;> kernel_rfl
theorem F19_lrlrr_eq  : kCode env 19 false inv k (cp c19 58) (act 53 [(0, x0), (1, x1), (5, x5)]) h K = F19_lrlrr inv k k x0 x1 x5 h (fun y0 y1 y5 y15 h => K (.exit 0) (act 53 [(0, y0), (1, y1), (5, y5), (15, y15)]) h) (fun y4 h => K .ret (act 53 [(4, y4)]) h) := kq_loop (F19_lrlrr_j k)
theorem r19_13  : kCode env 19 false inv k (cp c19 30) (act 53 [(0, x0), (1, x1), (5, x5), (15, x15)]) h K =
    K .normal (act 53 [(4, (.bool true))]) h := kq_reg
/-- shadowbook/shadowbookkit.SameRows -/
noncomputable def F19 (inv : Inv) (k : Nat) (x0 x1 : Value) (h : AH) : Option (Value × AH) :=
    bnd (pLen Tryz.prog #[31] x0 h) fun x8 =>
    bnd (pLen Tryz.prog #[31] x1 h) fun x10 =>
    bnd (pBin Tryz.prog .neq 3 (.tmp 8) (.tmp 10) x8 x10) fun x11 =>
    brV x11
    (some ((.bool false), h))
    (F19_lrlrr inv k k x0 x1 (.int .i64 0) h
    (fun y0 y1 y5 y15 h =>
    some ((.bool true), h))
    (fun y4 h_2 =>
    some (y4, h_2)))
theorem F19_eq : eFun env k inv 19 #[x0, x1] h = F19 inv k x0 x1 h := by
      refine (kq_fun (a := act 53 [(0, x0), (1, x1)]) (c := cp c19 1)).trans ?_
      unfold F19
      simp only [kq_seq c19 1, r19_0, kq_seq c19 3, kq_seq c19 6, r19_1, b19_rlr, kq_seq c19 26, r19_2, kq_ret c19 53, res19_0, kq_skip c19 27, kq_seq c19 7, kq_seq c19 14, r19_3, kq_block c19 29 0, F19_lrlrr_eq, kq_seq c19 15, r19_13, kq_ret c19 31, reduceIte, reduceCtorEq, XE.exit.injEq, Nat.reduceEqDiff, Nat.reduceMul, Nat.reduceAdd] <;> kernel_rfl
theorem F19_call : eInv env (k + 1) (.func 19) #[] #[x0, x1] h = F19 (eInv env k) k x0 x1 h := kq_inv F19_eq
noncomputable def c20 : Code := codeOf Tryz.prog 20
theorem r20_0  : kCode env 20 false inv k (cp c20 2) (act 5 [(0, x0)]) h K =
    bnd (pAlloc Tryz.prog 49 h) fun x2 =>
    K .normal (act 5 [(0, x0), (2, x2.1)]) x2.2 := kq_reg
theorem r20_1  : kCode env 20 false inv k (cp c20 6) (act 5 [(0, x0), (2, x2)]) h K =
    bnd (pBuild Tryz.prog 49 #[(0, (.int .i64 1)), (1, x0)]) fun x4 =>
    bnd (kSt (pStore Tryz.prog 49 x2 x4 h)) fun u =>
    K .normal (act 5 [(2, x2)]) u.2 := kq_reg
theorem res20_0 : resOfFn env.P 20 .ret (act 5 [(2, x2)]) h = bnd (pLoad Tryz.prog 49 x2 h) fun q0 =>
    some (q0, h) := kq_res
/-- shadowbook/shadowbookkit.Num -/
noncomputable def F20 (inv : Inv) (k : Nat) (x0 : Value) (h : AH) : Option (Value × AH) :=
    bnd (pAlloc Tryz.prog 49 h) fun x2 =>
    bnd (pBuild Tryz.prog 49 #[(0, (.int .i64 1)), (1, x0)]) fun x4 =>
    bnd (kSt (pStore Tryz.prog 49 x2.1 x4 x2.2)) fun u =>
    bnd (pLoad Tryz.prog 49 x2.1 u.2) fun q0 =>
    some (q0, u.2)
theorem F20_eq : eFun env k inv 20 #[x0] h = F20 inv k x0 h := by
      refine (kq_fun (a := act 5 [(0, x0)]) (c := cp c20 1)).trans ?_
      unfold F20
      simp only [kq_seq c20 1, r20_0, kq_seq c20 3, r20_1, kq_ret c20 7, res20_0, reduceIte, reduceCtorEq, XE.exit.injEq, Nat.reduceEqDiff, Nat.reduceMul, Nat.reduceAdd] <;> kernel_rfl
theorem F20_call : eInv env (k + 1) (.func 20) #[] #[x0] h = F20 (eInv env k) k x0 h := kq_inv F20_eq
noncomputable def c21 : Code := codeOf Tryz.prog 21
theorem r21_0  : kCode env 21 false inv k (cp c21 2) (act 8 [(0, x0), (1, x1)]) h K =
    bnd (pAlloc Tryz.prog 40 h) fun x4 =>
    K .normal (act 8 [(0, x0), (1, x1), (4, x4.1)]) x4.2 := kq_reg
theorem r21_1  : kCode env 21 false inv k (cp c21 6) (act 8 [(0, x0), (1, x1), (4, x4)]) h K =
    bnd (pBuild Tryz.prog 40 #[(0, x0), (2, x1)]) fun x7 =>
    bnd (kSt (pStore Tryz.prog 40 x4 x7 h)) fun u =>
    K .normal (act 8 [(4, x4)]) u.2 := kq_reg
theorem res21_0 : resOfFn env.P 21 .ret (act 8 [(4, x4)]) h = bnd (pLoad Tryz.prog 40 x4 h) fun q0 =>
    some (q0, h) := kq_res
/-- shadowbook/shadowbooklaw21.op -/
noncomputable def F21 (inv : Inv) (k : Nat) (x0 x1 : Value) (h : AH) : Option (Value × AH) :=
    bnd (pAlloc Tryz.prog 40 h) fun x4 =>
    bnd (pBuild Tryz.prog 40 #[(0, x0), (2, x1)]) fun x7 =>
    bnd (kSt (pStore Tryz.prog 40 x4.1 x7 x4.2)) fun u =>
    bnd (pLoad Tryz.prog 40 x4.1 u.2) fun q0 =>
    some (q0, u.2)
theorem F21_eq : eFun env k inv 21 #[x0, x1] h = F21 inv k x0 x1 h := by
      refine (kq_fun (a := act 8 [(0, x0), (1, x1)]) (c := cp c21 1)).trans ?_
      unfold F21
      simp only [kq_seq c21 1, r21_0, kq_seq c21 3, r21_1, kq_ret c21 7, res21_0, reduceIte, reduceCtorEq, XE.exit.injEq, Nat.reduceEqDiff, Nat.reduceMul, Nat.reduceAdd] <;> kernel_rfl
theorem F21_call : eInv env (k + 1) (.func 21) #[] #[x0, x1] h = F21 (eInv env k) k x0 x1 h := kq_inv F21_eq
noncomputable def c22 : Code := codeOf Tryz.prog 22
theorem r22_0  : kCode env 22 false inv k (cp c22 2) (act 33 [(0, x0), (1, x1)]) h K =
    bnd (pBox Tryz.prog 34 x0 h) fun x2 =>
    bnd (pBox Tryz.prog 34 x1 x2.2) fun x3 =>
    K .normal (act 33 [(2, x2.1), (3, x3.1)]) x3.2 := kq_reg
theorem r22_1  : kCode env 22 false inv k (cp c22 6) (act 33 [(2, x2), (3, x3)]) h K =
    K .normal (act 33 [(2, x2), (3, x3), (5, (.func (.func 42) #[] #[]))]) h := kq_reg
noncomputable abbrev G22_2 {β : Type} (inv : Inv) (x2 x3 x5 : Value) (h : AH) (K : Value → AH → Option β) : Option β :=
    bnd (pFieldAddr Tryz.prog 34 x2 0) fun x6 =>
    bnd (pLoad Tryz.prog 30 x6 h) fun x7 =>
    bnd (pFieldAddr Tryz.prog 34 x3 0) fun x8 =>
    bnd (pLoad Tryz.prog 30 x8 h) fun x9 =>
    bnd (pBin Tryz.prog .eql 30 (.tmp 7) (.tmp 9) x7 x9) fun x10 =>
    bnd (gd (some x10) true h (lt (pFieldAddr Tryz.prog 34 x2 3) h)) fun x12 =>
    bnd (gd (some x10) true x12.2 (lt (pLoad Tryz.prog 3 x12.1 x12.2) x12.2)) fun x13 =>
    bnd (gd (some x10) true x13.2 (lt (pFieldAddr Tryz.prog 34 x3 3) x13.2)) fun x14 =>
    bnd (gd (some x10) true x14.2 (lt (pLoad Tryz.prog 3 x14.1 x14.2) x14.2)) fun x15 =>
    bnd (gd (some x10) true x15.2 (lt (pBin Tryz.prog .eql 3 (.tmp 13) (.tmp 15) x13.1 x15.1) x15.2)) fun x16 =>
    bnd (pickV x10 x16.1 (.bool false)) fun x17 =>
    bnd (gd (some x17) true x16.2 (lt (pFieldAddr Tryz.prog 34 x2 2) x16.2)) fun x19 =>
    bnd (gd (some x17) true x19.2 (lt (pLoad Tryz.prog 32 x19.1 x19.2) x19.2)) fun x20 =>
    bnd (gd (some x17) true x20.2 (lt (pFieldAddr Tryz.prog 34 x3 2) x20.2)) fun x21 =>
    bnd (gd (some x17) true x21.2 (lt (pLoad Tryz.prog 32 x21.1 x21.2) x21.2)) fun x22 =>
    bnd (gd (some x17) true x22.2 (inv (.func 44) #[] #[x20.1, x22.1] x22.2)) fun x23 =>
    bnd (pickV x17 x23.1 (.bool false)) fun x24 =>
    bnd (gd (some x24) true x23.2 (lt (pFieldAddr Tryz.prog 34 x2 1) x23.2)) fun x26 =>
    bnd (gd (some x24) true x26.2 (lt (pLoad Tryz.prog 31 x26.1 x26.2) x26.2)) fun x27 =>
    bnd (gd (some x24) true x27.2 (lt (pFieldAddr Tryz.prog 34 x3 1) x27.2)) fun x28 =>
    bnd (gd (some x24) true x28.2 (lt (pLoad Tryz.prog 31 x28.1 x28.2) x28.2)) fun x29 =>
    bnd (gd (some x24) true x29.2 (some (x5, x29.2))) fun x30 =>
    bnd (gd (some x24) true x30.2 (inv (.func 45) #[] #[x27.1, x29.1, x30.1] x30.2)) fun x31 =>
    bnd (pickV x24 x31.1 (.bool false)) fun x32 =>
    K (x32) x31.2
theorem r22_2  : kCode env 22 false inv k (cp c22 14) (act 33 [(2, x2), (3, x3), (5, x5)]) h K =
    G22_2 inv x2 x3 x5 h fun y4 h => K .normal (act 33 [(4, y4)]) h := kq_reg
theorem res22_0 : resOfFn env.P 22 .ret (act 33 [(4, x4)]) h = some (x4, h) := kq_res
/-- shadowbook/model.SameAnswer -/
noncomputable def F22 (inv : Inv) (k : Nat) (x0 x1 : Value) (h : AH) : Option (Value × AH) :=
    bnd (pBox Tryz.prog 34 x0 h) fun x2 =>
    bnd (pBox Tryz.prog 34 x1 x2.2) fun x3 =>
    G22_2 inv x2.1 x3.1 (.func (.func 42) #[] #[]) x3.2 fun y4 h =>
    some (y4, h)
theorem F22_eq : eFun env k inv 22 #[x0, x1] h = F22 inv k x0 x1 h := by
      refine (kq_fun (a := act 33 [(0, x0), (1, x1)]) (c := cp c22 1)).trans ?_
      unfold F22
      simp only [kq_seq c22 1, r22_0, kq_seq c22 3, r22_1, kq_seq c22 7, r22_2, kq_ret c22 15, res22_0, reduceIte, reduceCtorEq, XE.exit.injEq, Nat.reduceEqDiff, Nat.reduceMul, Nat.reduceAdd] <;> kernel_rfl
theorem F22_call : eInv env (k + 1) (.func 22) #[] #[x0, x1] h = F22 (eInv env k) k x0 x1 h := kq_inv F22_eq
noncomputable def c23 : Code := codeOf Tryz.prog 23
theorem r23_0  : kCode env 23 false inv k (cp c23 2) (act 11 [(0, x0)]) h K =
    bnd (pAlloc Tryz.prog 58 h) fun x2 =>
    K .normal (act 11 [(0, x0), (2, x2.1)]) x2.2 := kq_reg
theorem r23_1  : kCode env 23 false inv k (cp c23 12) (act 11 [(0, x0), (2, x2)]) h K =
    bnd (pBin Tryz.prog .eql 28 (.tmp 3) (.const (.pointer none)) x0 (.pointer none)) fun x4 =>
    K .normal (act 11 [(0, x0), (2, x2), (4, x4)]) h := kq_reg
theorem b23_rlr  : kCode env 23 false inv k (cp c23 13) (act 11 [(0, x0), (2, x2), (4, x4)]) h K = brV x4 (kCode env 23 false inv k (cp c23 26) (act 11 [(0, x0), (2, x2), (4, x4)]) h K) (kCode env 23 false inv k (cp c23 27) (act 11 [(0, x0), (2, x2), (4, x4)]) h K) := kq_cond
theorem r23_2  : kCode env 23 false inv k (cp c23 52) (act 11 [(0, x0), (2, x2), (4, x4)]) h K =
    bnd (pBuild Tryz.prog 58 #[]) fun x5 =>
    bnd (kSt (pStore Tryz.prog 58 x2 x5 h)) fun u =>
    K .normal (act 11 [(2, x2)]) u.2 := kq_reg
theorem res23_0 : resOfFn env.P 23 .ret (act 11 [(2, x2)]) h = bnd (pLoad Tryz.prog 58 x2 h) fun q0 =>
    some (q0, h) := kq_res
theorem r23_3  : kCode env 23 false inv k (cp c23 14) (act 11 [(0, x0), (2, x2), (4, x4)]) h K =
    bnd (pNilCheck Tryz.prog x0) fun x7 =>
    bnd (pFieldAddr Tryz.prog 85 x7 0) fun x8 =>
    bnd (pLoad Tryz.prog 58 x8 h) fun x9 =>
    bnd (inv (.func 46) #[] #[x9] h) fun x10 =>
    bnd (kSt (pStore Tryz.prog 58 x2 x10.1 x10.2)) fun u =>
    K .normal (act 11 [(2, x2)]) u.2 := kq_reg
/-- (*shadowbook/model.Model).Head -/
noncomputable def F23 (inv : Inv) (k : Nat) (x0 : Value) (h : AH) : Option (Value × AH) :=
    bnd (pAlloc Tryz.prog 58 h) fun x2 =>
    bnd (pBin Tryz.prog .eql 28 (.tmp 3) (.const (.pointer none)) x0 (.pointer none)) fun x4 =>
    brV x4
    (bnd (pBuild Tryz.prog 58 #[]) fun x5 =>
    bnd (kSt (pStore Tryz.prog 58 x2.1 x5 x2.2)) fun u =>
    bnd (pLoad Tryz.prog 58 x2.1 u.2) fun q0 =>
    some (q0, u.2))
    (bnd (pNilCheck Tryz.prog x0) fun x7 =>
    bnd (pFieldAddr Tryz.prog 85 x7 0) fun x8 =>
    bnd (pLoad Tryz.prog 58 x8 x2.2) fun x9 =>
    bnd (inv (.func 46) #[] #[x9] x2.2) fun x10 =>
    bnd (kSt (pStore Tryz.prog 58 x2.1 x10.1 x10.2)) fun u_1 =>
    bnd (pLoad Tryz.prog 58 x2.1 u_1.2) fun q0 =>
    some (q0, u_1.2))
theorem F23_eq : eFun env k inv 23 #[x0] h = F23 inv k x0 h := by
      refine (kq_fun (a := act 11 [(0, x0)]) (c := cp c23 1)).trans ?_
      unfold F23
      simp only [kq_seq c23 1, r23_0, kq_seq c23 3, kq_seq c23 6, r23_1, b23_rlr, kq_seq c23 26, r23_2, kq_ret c23 53, res23_0, kq_skip c23 27, kq_seq c23 7, r23_3, kq_ret c23 15, reduceIte, reduceCtorEq, XE.exit.injEq, Nat.reduceEqDiff, Nat.reduceMul, Nat.reduceAdd] <;> kernel_rfl
theorem F23_call : eInv env (k + 1) (.func 23) #[] #[x0] h = F23 (eInv env k) k x0 h := kq_inv F23_eq
noncomputable def c24 : Code := codeOf Tryz.prog 24
theorem r24_0  : kCode env 24 false inv k (cp c24 2) (act 11 [(0, x0)]) h K =
    bnd (pAlloc Tryz.prog 58 h) fun x2 =>
    K .normal (act 11 [(0, x0), (2, x2.1)]) x2.2 := kq_reg
theorem r24_1  : kCode env 24 false inv k (cp c24 12) (act 11 [(0, x0), (2, x2)]) h K =
    bnd (pBin Tryz.prog .eql 28 (.tmp 3) (.const (.pointer none)) x0 (.pointer none)) fun x4 =>
    K .normal (act 11 [(0, x0), (2, x2), (4, x4)]) h := kq_reg
theorem b24_rlr  : kCode env 24 false inv k (cp c24 13) (act 11 [(0, x0), (2, x2), (4, x4)]) h K = brV x4 (kCode env 24 false inv k (cp c24 26) (act 11 [(0, x0), (2, x2), (4, x4)]) h K) (kCode env 24 false inv k (cp c24 27) (act 11 [(0, x0), (2, x2), (4, x4)]) h K) := kq_cond
theorem r24_2  : kCode env 24 false inv k (cp c24 52) (act 11 [(0, x0), (2, x2), (4, x4)]) h K =
    bnd (pBuild Tryz.prog 58 #[]) fun x5 =>
    bnd (kSt (pStore Tryz.prog 58 x2 x5 h)) fun u =>
    K .normal (act 11 [(2, x2)]) u.2 := kq_reg
theorem res24_0 : resOfFn env.P 24 .ret (act 11 [(2, x2)]) h = bnd (pLoad Tryz.prog 58 x2 h) fun q0 =>
    some (q0, h) := kq_res
theorem r24_3  : kCode env 24 false inv k (cp c24 14) (act 11 [(0, x0), (2, x2), (4, x4)]) h K =
    bnd (pNilCheck Tryz.prog x0) fun x7 =>
    bnd (pFieldAddr Tryz.prog 85 x7 1) fun x8 =>
    bnd (pLoad Tryz.prog 58 x8 h) fun x9 =>
    bnd (inv (.func 46) #[] #[x9] h) fun x10 =>
    bnd (kSt (pStore Tryz.prog 58 x2 x10.1 x10.2)) fun u =>
    K .normal (act 11 [(2, x2)]) u.2 := kq_reg
/-- (*shadowbook/model.Model).Kept -/
noncomputable def F24 (inv : Inv) (k : Nat) (x0 : Value) (h : AH) : Option (Value × AH) :=
    bnd (pAlloc Tryz.prog 58 h) fun x2 =>
    bnd (pBin Tryz.prog .eql 28 (.tmp 3) (.const (.pointer none)) x0 (.pointer none)) fun x4 =>
    brV x4
    (bnd (pBuild Tryz.prog 58 #[]) fun x5 =>
    bnd (kSt (pStore Tryz.prog 58 x2.1 x5 x2.2)) fun u =>
    bnd (pLoad Tryz.prog 58 x2.1 u.2) fun q0 =>
    some (q0, u.2))
    (bnd (pNilCheck Tryz.prog x0) fun x7 =>
    bnd (pFieldAddr Tryz.prog 85 x7 1) fun x8 =>
    bnd (pLoad Tryz.prog 58 x8 x2.2) fun x9 =>
    bnd (inv (.func 46) #[] #[x9] x2.2) fun x10 =>
    bnd (kSt (pStore Tryz.prog 58 x2.1 x10.1 x10.2)) fun u_1 =>
    bnd (pLoad Tryz.prog 58 x2.1 u_1.2) fun q0 =>
    some (q0, u_1.2))
theorem F24_eq : eFun env k inv 24 #[x0] h = F24 inv k x0 h := by
      refine (kq_fun (a := act 11 [(0, x0)]) (c := cp c24 1)).trans ?_
      unfold F24
      simp only [kq_seq c24 1, r24_0, kq_seq c24 3, kq_seq c24 6, r24_1, b24_rlr, kq_seq c24 26, r24_2, kq_ret c24 53, res24_0, kq_skip c24 27, kq_seq c24 7, r24_3, kq_ret c24 15, reduceIte, reduceCtorEq, XE.exit.injEq, Nat.reduceEqDiff, Nat.reduceMul, Nat.reduceAdd] <;> kernel_rfl
theorem F24_call : eInv env (k + 1) (.func 24) #[] #[x0] h = F24 (eInv env k) k x0 h := kq_inv F24_eq
noncomputable def c25 : Code := codeOf Tryz.prog 25
theorem r25_0  : kCode env 25 false inv k (cp c25 2) (act 17 [(0, x0), (1, x1)]) h K =
    bnd (pBox Tryz.prog 58 x0 h) fun x2 =>
    bnd (pBox Tryz.prog 58 x1 x2.2) fun x3 =>
    K .normal (act 17 [(2, x2.1), (3, x3.1)]) x3.2 := kq_reg
noncomputable abbrev G25_1 {β : Type} (inv : Inv) (x2 x3 : Value) (h : AH) (K : Value → AH → Option β) : Option β :=
    bnd (pFieldAddr Tryz.prog 58 x2 0) fun x5 =>
    bnd (pLoad Tryz.prog 55 x5 h) fun x6 =>
    bnd (pFieldAddr Tryz.prog 58 x3 0) fun x7 =>
    bnd (pLoad Tryz.prog 55 x7 h) fun x8 =>
    bnd (inv (.func 47) #[] #[x6, x8, (.func (.func 48) #[] #[])] h) fun x9 =>
    bnd (gd (some x9.1) true x9.2 (lt (pFieldAddr Tryz.prog 58 x2 1) x9.2)) fun x11 =>
    bnd (gd (some x9.1) true x11.2 (lt (pLoad Tryz.prog 56 x11.1 x11.2) x11.2)) fun x12 =>
    bnd (gd (some x9.1) true x12.2 (lt (pFieldAddr Tryz.prog 58 x3 1) x12.2)) fun x13 =>
    bnd (gd (some x9.1) true x13.2 (lt (pLoad Tryz.prog 56 x13.1 x13.2) x13.2)) fun x14 =>
    bnd (gd (some x9.1) true x14.2 (inv (.func 49) #[] #[x12.1, x14.1, (.func (.func 50) #[] #[])] x14.2)) fun x15 =>
    bnd (pickV x9.1 x15.1 (.bool false)) fun x16 =>
    K (x16) x15.2
theorem r25_1  : kCode env 25 false inv k (cp c25 6) (act 17 [(2, x2), (3, x3)]) h K =
    G25_1 inv x2 x3 h fun y4 h => K .normal (act 17 [(4, y4)]) h := kq_reg
theorem res25_0 : resOfFn env.P 25 .ret (act 17 [(4, x4)]) h = some (x4, h) := kq_res
/-- shadowbook/model.Same -/
noncomputable def F25 (inv : Inv) (k : Nat) (x0 x1 : Value) (h : AH) : Option (Value × AH) :=
    bnd (pBox Tryz.prog 58 x0 h) fun x2 =>
    bnd (pBox Tryz.prog 58 x1 x2.2) fun x3 =>
    G25_1 inv x2.1 x3.1 x3.2 fun y4 h =>
    some (y4, h)
theorem F25_eq : eFun env k inv 25 #[x0, x1] h = F25 inv k x0 x1 h := by
      refine (kq_fun (a := act 17 [(0, x0), (1, x1)]) (c := cp c25 1)).trans ?_
      unfold F25
      simp only [kq_seq c25 1, r25_0, kq_seq c25 3, r25_1, kq_ret c25 7, res25_0, reduceIte, reduceCtorEq, XE.exit.injEq, Nat.reduceEqDiff, Nat.reduceMul, Nat.reduceAdd] <;> kernel_rfl
theorem F25_call : eInv env (k + 1) (.func 25) #[] #[x0, x1] h = F25 (eInv env k) k x0 x1 h := kq_inv F25_eq
noncomputable def c30 : Code := codeOf Tryz.prog 30
theorem r30_0  : kCode env 30 false inv k (cp c30 2) (act 22 [(0, x0)]) h K =
    K .normal (act 22 [(0, x0)]) h := kq_reg
theorem r30_1  : kCode env 30 false inv k (cp c30 6) (act 22 [(0, x0)]) h K =
    bnd (inv (.func 14) #[] #[] h) fun x7 =>
    K .normal (act 22 [(0, x0), (3, x7.1)]) x7.2 := kq_reg
theorem r30_2  : kCode env 30 false inv k (cp c30 14) (act 22 [(0, x0), (3, x3)]) h K =
    K .normal (act 22 [(0, x0), (3, x3), (4, (.slice none 0 0))]) h := kq_reg
theorem r30_3  : kCode env 30 false inv k (cp c30 60) (act 22 [(0, x0), (3, x3), (4, x4)]) h K =
    bnd (pLen Tryz.prog #[22] x0 h) fun x9 =>
    K .normal (act 22 [(3, x3), (4, x4), (8, x0), (9, x9), (10, (.int .i64 0))]) h := kq_reg
theorem r30_4  : kCode env 30 false inv k (cp c30 488) (act 22 [(3, x3), (4, x4), (8, x8), (9, x9), (10, x10)]) h K =
    bnd (pBin Tryz.prog .lss 3 (.tmp 10) (.tmp 9) x10 x9) fun x11 =>
    K .normal (act 22 [(3, x3), (4, x4), (8, x8), (9, x9), (10, x10), (11, x11)]) h := kq_reg
theorem b30_lrllrlrrr  : kCode env 30 false inv k (cp c30 978) (act 22 [(3, x3), (4, x4), (8, x8), (9, x9), (10, x10), (11, x11)]) h K = brV x11 (kCode env 30 false inv k (cp c30 1956) (act 22 [(3, x3), (4, x4), (8, x8), (9, x9), (10, x10), (11, x11)]) h K) (kCode env 30 false inv k (cp c30 1957) (act 22 [(3, x3), (4, x4), (8, x8), (9, x9), (10, x10), (11, x11)]) h K) := kq_cond
theorem r30_5  : kCode env 30 false inv k (cp c30 7832) (act 22 [(3, x3), (4, x4), (8, x8), (9, x9), (10, x10), (11, x11)]) h K =
    bnd (pIndexAddr Tryz.prog 22 x8 x10) fun x12 =>
    bnd (pLoad Tryz.prog 40 x12 h) fun x13 =>
    bnd (pAlloc Tryz.prog 40 h) fun x6 =>
    bnd (kSt (pStore Tryz.prog 40 x6.1 x13 x6.2)) fun u =>
    K .normal (act 22 [(3, x3), (4, x4), (6, x6.1), (8, x8), (9, x9), (10, x10)]) u.2 := kq_reg
theorem r30_6  : kCode env 30 false inv k (cp c30 7833) (act 22 [(3, x3), (4, x4), (6, x6), (8, x8), (9, x9), (10, x10)]) h K =
    bnd (pLoad Tryz.prog 40 x6 h) fun x16 =>
    bnd (inv (.func 15) #[] #[x3, x16] h) fun x17 =>
    bnd (pBuildSlice Tryz.prog 67 1 #[(0, x17.1)] x17.2) fun x18 =>
    bnd (pAppend Tryz.prog #[67, 67] x4 x18.1 x18.2) fun x19 =>
    K .normal (act 22 [(3, x3), (4, x19.1), (8, x8), (9, x9), (10, x10)]) x19.2 := kq_reg
theorem r30_7  : kCode env 30 false inv k (cp c30 1959) (act 22 [(3, x3), (4, x4), (8, x8), (9, x9), (10, x10)]) h K =
    bnd (pBin Tryz.prog .add 3 (.tmp 10) (.const (.int .i64 1)) x10 (.int .i64 1)) fun x20 =>
    K .normal (act 22 [(3, x3), (4, x4), (8, x8), (9, x9), (10, x20)]) h := kq_reg
noncomputable def F30_lrlrrr {β : Type} (inv : Inv) (k : Nat) : Nat → Value → Value → Value → Value → Value → AH → (Value → Value → Value → Value → Value → Value → AH → Option β) → Option β
  | 0, _, _, _, _, _, _, _ => none
  | j + 1, x3, x4, x8, x9, x10, h, ke0 =>
    bnd (pBin Tryz.prog .lss 3 (.tmp 10) (.tmp 9) x10 x9) fun x11 =>
    brV x11
    (bnd (pIndexAddr Tryz.prog 22 x8 x10) fun x12 =>
    bnd (pLoad Tryz.prog 40 x12 h) fun x13 =>
    bnd (pAlloc Tryz.prog 40 h) fun x6 =>
    bnd (kSt (pStore Tryz.prog 40 x6.1 x13 x6.2)) fun u =>
    bnd (pLoad Tryz.prog 40 x6.1 u.2) fun x16 =>
    bnd (inv (.func 15) #[] #[x3, x16] u.2) fun x17 =>
    bnd (pBuildSlice Tryz.prog 67 1 #[(0, x17.1)] x17.2) fun x18 =>
    bnd (pAppend Tryz.prog #[67, 67] x4 x18.1 x18.2) fun x19 =>
    bnd (pBin Tryz.prog .add 3 (.tmp 10) (.const (.int .i64 1)) x10 (.int .i64 1)) fun x20 =>
    F30_lrlrrr inv k j x3 x19.1 x8 x9 x20 x19.2 ke0)
    (ke0 x3 x4 x8 x9 x10 x11 h)
theorem F30_lrlrrr_j (j : Nat) : kLoop (kCode env 30 false inv k (cp c30 244)) j (act 22 [(3, x3), (4, x4), (8, x8), (9, x9), (10, x10)]) h K = F30_lrlrrr inv k j x3 x4 x8 x9 x10 h (fun y3 y4 y8 y9 y10 y11 h => K (.exit 0) (act 22 [(3, y3), (4, y4), (8, y8), (9, y9), (10, y10), (11, y11)]) h) := by
      induction j generalizing x3 x4 x8 x9 x10 h with
      | zero => rfl
      | succ j ih =>
        unfold F30_lrlrrr
        simp only [kLoop, kq_seq c30 244, r30_4, kq_seq c30 489, b30_lrllrlrrr, kq_skip c30 1956, kq_seq c30 979, kq_block c30 1958 1, kq_seq c30 3916, r30_5, r30_6, r30_7, kq_exit c30 1957 0, ih, reduceIte, reduceCtorEq, XE.exit.injEq, Nat.reduceEqDiff, Nat.reduceMul, Nat.reduceAdd] <;> kernel_rfl
theorem F30_lrlrrr_eq  : kCode env 30 false inv k (cp c30 122) (act 22 [(3, x3), (4, x4), (8, x8), (9, x9), (10, x10)]) h K = F30_lrlrrr inv k k x3 x4 x8 x9 x10 h (fun y3 y4 y8 y9 y10 y11 h => K (.exit 0) (act 22 [(3, y3), (4, y4), (8, y8), (9, y9), (10, y10), (11, y11)]) h) := kq_loop (F30_lrlrrr_j k)
theorem r30_8  : kCode env 30 false inv k (cp c30 62) (act 22 [(3, x3), (4, x4), (8, x8), (9, x9), (10, x10), (11, x11)]) h K =
    K .normal (act 22 [(2, x4)]) h := kq_reg
theorem res30_0 : resOfFn env.P 30 .ret (act 22 [(2, x2)]) h = some (x2, h) := kq_res
/-- shadowbook/model.Run -/
noncomputable def F30 (inv : Inv) (k : Nat) (x0 : Value) (h : AH) : Option (Value × AH) :=
    bnd (inv (.func 14) #[] #[] h) fun x7 =>
    bnd (pLen Tryz.prog #[22] x0 x7.2) fun x9 =>
    F30_lrlrrr inv k k x7.1 (.slice none 0 0) x0 x9 (.int .i64 0) x7.2
    (fun y3 y4 y8 y9 y10 y11 h =>
    some (y4, h))
theorem F30_eq : eFun env k inv 30 #[x0] h = F30 inv k x0 h := by
      refine (kq_fun (a := act 22 [(0, x0)]) (c := cp c30 1)).trans ?_
      unfold F30
      simp only [kq_seq c30 1, r30_0, kq_seq c30 3, r30_1, kq_seq c30 7, r30_2, kq_seq c30 15, kq_seq c30 30, r30_3, kq_block c30 61 0, F30_lrlrrr_eq, kq_seq c30 31, r30_8, kq_ret c30 63, res30_0, reduceIte, reduceCtorEq, XE.exit.injEq, Nat.reduceEqDiff, Nat.reduceMul, Nat.reduceAdd] <;> kernel_rfl
theorem F30_call : eInv env (k + 1) (.func 30) #[] #[x0] h = F30 (eInv env k) k x0 h := kq_inv F30_eq
noncomputable def c32 : Code := codeOf Tryz.prog 32
theorem r32_0  : kCode env 32 false inv k (cp c32 2) (act 7 [(0, x0)]) h K =
    K .normal (act 7 [(0, x0)]) h := kq_reg
theorem r32_1  : kCode env 32 false inv k (cp c32 6) (act 7 [(0, x0)]) h K =
    bnd (inv (.func 20) #[] #[x0] h) fun x4 =>
    bnd (pBuild Tryz.prog 70 #[(0, (.int .i64 4)), (1, (.int .i64 1)), (2, x4.1)]) fun x5 =>
    bnd (pBuildSlice Tryz.prog 23 1 #[(0, x5)] x4.2) fun x6 =>
    K .normal (act 7 [(2, x6.1)]) x6.2 := kq_reg
theorem res32_0 : resOfFn env.P 32 .ret (act 7 [(2, x2)]) h = some (x2, h) := kq_res
/-- shadowbook/shadowbookkit.Above -/
noncomputable def F32 (inv : Inv) (k : Nat) (x0 : Value) (h : AH) : Option (Value × AH) :=
    bnd (inv (.func 20) #[] #[x0] h) fun x4 =>
    bnd (pBuild Tryz.prog 70 #[(0, (.int .i64 4)), (1, (.int .i64 1)), (2, x4.1)]) fun x5 =>
    bnd (pBuildSlice Tryz.prog 23 1 #[(0, x5)] x4.2) fun x6 =>
    some (x6.1, x6.2)
theorem F32_eq : eFun env k inv 32 #[x0] h = F32 inv k x0 h := by
      refine (kq_fun (a := act 7 [(0, x0)]) (c := cp c32 1)).trans ?_
      unfold F32
      simp only [kq_seq c32 1, r32_0, kq_seq c32 3, r32_1, kq_ret c32 7, res32_0, reduceIte, reduceCtorEq, XE.exit.injEq, Nat.reduceEqDiff, Nat.reduceMul, Nat.reduceAdd] <;> kernel_rfl
theorem F32_call : eInv env (k + 1) (.func 32) #[] #[x0] h = F32 (eInv env k) k x0 h := kq_inv F32_eq
noncomputable def c33 : Code := codeOf Tryz.prog 33
theorem r33_0  : kCode env 33 false inv k (cp c33 2) (act 6 [(0, x0)]) h K =
    bnd (pAlloc Tryz.prog 40 h) fun x2 =>
    K .normal (act 6 [(0, x0), (2, x2.1)]) x2.2 := kq_reg
theorem r33_1  : kCode env 33 false inv k (cp c33 6) (act 6 [(0, x0), (2, x2)]) h K =
    bnd (inv (.func 62) #[] #[] h) fun x4 =>
    bnd (pBuild Tryz.prog 40 #[(0, (.int .i64 1)), (1, x0), (3, x4.1)]) fun x5 =>
    bnd (kSt (pStore Tryz.prog 40 x2 x5 x4.2)) fun u =>
    K .normal (act 6 [(2, x2)]) u.2 := kq_reg
theorem res33_0 : resOfFn env.P 33 .ret (act 6 [(2, x2)]) h = bnd (pLoad Tryz.prog 40 x2 h) fun q0 =>
    some (q0, h) := kq_res
/-- shadowbook/shadowbooklaw21.create -/
noncomputable def F33 (inv : Inv) (k : Nat) (x0 : Value) (h : AH) : Option (Value × AH) :=
    bnd (pAlloc Tryz.prog 40 h) fun x2 =>
    bnd (inv (.func 62) #[] #[] x2.2) fun x4 =>
    bnd (pBuild Tryz.prog 40 #[(0, (.int .i64 1)), (1, x0), (3, x4.1)]) fun x5 =>
    bnd (kSt (pStore Tryz.prog 40 x2.1 x5 x4.2)) fun u =>
    bnd (pLoad Tryz.prog 40 x2.1 u.2) fun q0 =>
    some (q0, u.2)
theorem F33_eq : eFun env k inv 33 #[x0] h = F33 inv k x0 h := by
      refine (kq_fun (a := act 6 [(0, x0)]) (c := cp c33 1)).trans ?_
      unfold F33
      simp only [kq_seq c33 1, r33_0, kq_seq c33 3, r33_1, kq_ret c33 7, res33_0, reduceIte, reduceCtorEq, XE.exit.injEq, Nat.reduceEqDiff, Nat.reduceMul, Nat.reduceAdd] <;> kernel_rfl
theorem F33_call : eInv env (k + 1) (.func 33) #[] #[x0] h = F33 (eInv env k) k x0 h := kq_inv F33_eq
noncomputable def c34 : Code := codeOf Tryz.prog 34
theorem r34_0  : kCode env 34 false inv k (cp c34 2) (act 14 [(0, x0), (1, x1), (2, x2)]) h K =
    bnd (pAlloc Tryz.prog 40 h) fun x6 =>
    K .normal (act 14 [(0, x0), (1, x1), (2, x2), (6, x6.1)]) x6.2 := kq_reg
theorem r34_1  : kCode env 34 false inv k (cp c34 6) (act 14 [(0, x0), (1, x1), (2, x2), (6, x6)]) h K =
    bnd (inv (.func 36) #[] #[x1, x2] h) fun x10 =>
    bnd (pBuildSlice Tryz.prog 31 1 #[(0, x10.1)] x10.2) fun x11 =>
    bnd (inv (.func 63) #[] #[x11.1] x11.2) fun x12 =>
    bnd (pBuild Tryz.prog 40 #[(0, (.int .i64 3)), (1, x0), (4, x12.1)]) fun x13 =>
    bnd (kSt (pStore Tryz.prog 40 x6 x13 x12.2)) fun u =>
    K .normal (act 14 [(6, x6)]) u.2 := kq_reg
theorem res34_0 : resOfFn env.P 34 .ret (act 14 [(6, x6)]) h = bnd (pLoad Tryz.prog 40 x6 h) fun q0 =>
    some (q0, h) := kq_res
/-- shadowbook/shadowbooklaw21.put -/
noncomputable def F34 (inv : Inv) (k : Nat) (x0 x1 x2 : Value) (h : AH) : Option (Value × AH) :=
    bnd (pAlloc Tryz.prog 40 h) fun x6 =>
    bnd (inv (.func 36) #[] #[x1, x2] x6.2) fun x10 =>
    bnd (pBuildSlice Tryz.prog 31 1 #[(0, x10.1)] x10.2) fun x11 =>
    bnd (inv (.func 63) #[] #[x11.1] x11.2) fun x12 =>
    bnd (pBuild Tryz.prog 40 #[(0, (.int .i64 3)), (1, x0), (4, x12.1)]) fun x13 =>
    bnd (kSt (pStore Tryz.prog 40 x6.1 x13 x12.2)) fun u =>
    bnd (pLoad Tryz.prog 40 x6.1 u.2) fun q0 =>
    some (q0, u.2)
theorem F34_eq : eFun env k inv 34 #[x0, x1, x2] h = F34 inv k x0 x1 x2 h := by
      refine (kq_fun (a := act 14 [(0, x0), (1, x1), (2, x2)]) (c := cp c34 1)).trans ?_
      unfold F34
      simp only [kq_seq c34 1, r34_0, kq_seq c34 3, r34_1, kq_ret c34 7, res34_0, reduceIte, reduceCtorEq, XE.exit.injEq, Nat.reduceEqDiff, Nat.reduceMul, Nat.reduceAdd] <;> kernel_rfl
theorem F34_call : eInv env (k + 1) (.func 34) #[] #[x0, x1, x2] h = F34 (eInv env k) k x0 x1 x2 h := kq_inv F34_eq
noncomputable def c35 : Code := codeOf Tryz.prog 35
theorem r35_0  : kCode env 35 false inv k (cp c35 2) (act 17 [(0, x0)]) h K =
    K .normal (act 17 [(0, x0)]) h := kq_reg
theorem r35_1  : kCode env 35 false inv k (cp c35 12) (act 17 [(0, x0)]) h K =
    bnd (pBin Tryz.prog .eql 28 (.tmp 3) (.const (.pointer none)) x0 (.pointer none)) fun x4 =>
    K .normal (act 17 [(0, x0), (4, x4)]) h := kq_reg
theorem b35_rlr  : kCode env 35 false inv k (cp c35 13) (act 17 [(0, x0), (4, x4)]) h K = brV x4 (kCode env 35 false inv k (cp c35 26) (act 17 [(0, x0), (4, x4)]) h K) (kCode env 35 false inv k (cp c35 27) (act 17 [(0, x0), (4, x4)]) h K) := kq_cond
theorem r35_2  : kCode env 35 false inv k (cp c35 52) (act 17 [(0, x0), (4, x4)]) h K =
    K .normal (act 17 [(2, (.pointer none))]) h := kq_reg
theorem res35_0 : resOfFn env.P 35 .ret (act 17 [(2, x2)]) h = some (x2, h) := kq_res
noncomputable abbrev G35_3 {β : Type} (inv : Inv) (x0 : Value) (h : AH) (K : Value → AH → Option β) : Option β :=
    bnd (pNilCheck Tryz.prog x0) fun x6 =>
    bnd (pFieldAddr Tryz.prog 85 x6 0) fun x7 =>
    bnd (pLoad Tryz.prog 58 x7 h) fun x8 =>
    bnd (inv (.func 46) #[] #[x8] h) fun x9 =>
    bnd (pNilCheck Tryz.prog x0) fun x11 =>
    bnd (pFieldAddr Tryz.prog 85 x11 1) fun x12 =>
    bnd (pLoad Tryz.prog 58 x12 x9.2) fun x13 =>
    bnd (inv (.func 46) #[] #[x13] x9.2) fun x14 =>
    bnd (pBuild Tryz.prog 85 #[(0, x9.1), (1, x14.1)]) fun x15 =>
    bnd (pBox Tryz.prog 85 x15 x14.2) fun x16 =>
    chkK ((!true || !true || (sameO (pLoad Tryz.prog 58 x12 h) x13 && sameO (pLoad Tryz.prog 58 x12 x9.2) x13)) && true) <|
    K (x16.1) x16.2
theorem r35_3  : kCode env 35 false inv k (cp c35 14) (act 17 [(0, x0), (4, x4)]) h K =
    G35_3 inv x0 h fun y2 h => K .normal (act 17 [(2, y2)]) h := kq_draw
/-- (*shadowbook/model.Model).Clone -/
noncomputable def F35 (inv : Inv) (k : Nat) (x0 : Value) (h : AH) : Option (Value × AH) :=
    bnd (pBin Tryz.prog .eql 28 (.tmp 3) (.const (.pointer none)) x0 (.pointer none)) fun x4 =>
    brV x4
    (some ((.pointer none), h))
    (G35_3 inv x0 h fun y2 h =>
    some (y2, h))
theorem F35_eq : eFun env k inv 35 #[x0] h = F35 inv k x0 h := by
      refine (kq_fun (a := act 17 [(0, x0)]) (c := cp c35 1)).trans ?_
      unfold F35
      simp only [kq_seq c35 1, r35_0, kq_seq c35 3, kq_seq c35 6, r35_1, b35_rlr, kq_seq c35 26, r35_2, kq_ret c35 53, res35_0, kq_skip c35 27, kq_seq c35 7, r35_3, kq_ret c35 15, reduceIte, reduceCtorEq, XE.exit.injEq, Nat.reduceEqDiff, Nat.reduceMul, Nat.reduceAdd] <;> kernel_rfl
theorem F35_call : eInv env (k + 1) (.func 35) #[] #[x0] h = F35 (eInv env k) k x0 h := kq_inv F35_eq
noncomputable def c36 : Code := codeOf Tryz.prog 36
theorem r36_0  : kCode env 36 false inv k (cp c36 2) (act 10 [(0, x0), (1, x1)]) h K =
    K .normal (act 10 [(0, x0), (1, x1)]) h := kq_reg
theorem r36_1  : kCode env 36 false inv k (cp c36 6) (act 10 [(0, x0), (1, x1)]) h K =
    bnd (inv (.func 64) #[] #[x0] h) fun x6 =>
    bnd (inv (.func 20) #[] #[x1] x6.2) fun x8 =>
    bnd (pBuildSlice Tryz.prog 45 2 #[(0, x6.1), (1, x8.1)] x8.2) fun x9 =>
    K .normal (act 10 [(4, x9.1)]) x9.2 := kq_reg
theorem res36_0 : resOfFn env.P 36 .ret (act 10 [(4, x4)]) h = some (x4, h) := kq_res
/-- shadowbook/shadowbookkit.Row -/
noncomputable def F36 (inv : Inv) (k : Nat) (x0 x1 : Value) (h : AH) : Option (Value × AH) :=
    bnd (inv (.func 64) #[] #[x0] h) fun x6 =>
    bnd (inv (.func 20) #[] #[x1] x6.2) fun x8 =>
    bnd (pBuildSlice Tryz.prog 45 2 #[(0, x6.1), (1, x8.1)] x8.2) fun x9 =>
    some (x9.1, x9.2)
theorem F36_eq : eFun env k inv 36 #[x0, x1] h = F36 inv k x0 x1 h := by
      refine (kq_fun (a := act 10 [(0, x0), (1, x1)]) (c := cp c36 1)).trans ?_
      unfold F36
      simp only [kq_seq c36 1, r36_0, kq_seq c36 3, r36_1, kq_ret c36 7, res36_0, reduceIte, reduceCtorEq, XE.exit.injEq, Nat.reduceEqDiff, Nat.reduceMul, Nat.reduceAdd] <;> kernel_rfl
theorem F36_call : eInv env (k + 1) (.func 36) #[] #[x0, x1] h = F36 (eInv env k) k x0 x1 h := kq_inv F36_eq
noncomputable def c37 : Code := codeOf Tryz.prog 37
theorem r37_0  : kCode env 37 false inv k (cp c37 2) (act 26 [(0, x0), (1, x1)]) h K =
    K .normal (act 26 [(0, x0), (1, x1)]) h := kq_reg
theorem r37_1  : kCode env 37 false inv k (cp c37 12) (act 26 [(0, x0), (1, x1)]) h K =
    bnd (pLen Tryz.prog #[32] x0 h) fun x7 =>
    bnd (pLen Tryz.prog #[32] x1 h) fun x9 =>
    bnd (pBin Tryz.prog .neq 3 (.tmp 7) (.tmp 9) x7 x9) fun x10 =>
    K .normal (act 26 [(0, x0), (1, x1), (10, x10)]) h := kq_reg
theorem b37_rlr  : kCode env 37 false inv k (cp c37 13) (act 26 [(0, x0), (1, x1), (10, x10)]) h K = brV x10 (kCode env 37 false inv k (cp c37 26) (act 26 [(0, x0), (1, x1), (10, x10)]) h K) (kCode env 37 false inv k (cp c37 27) (act 26 [(0, x0), (1, x1), (10, x10)]) h K) := kq_cond
theorem r37_2  : kCode env 37 false inv k (cp c37 52) (act 26 [(0, x0), (1, x1), (10, x10)]) h K =
    K .normal (act 26 [(4, (.bool false))]) h := kq_reg
theorem res37_0 : resOfFn env.P 37 .ret (act 26 [(4, x4)]) h = some (x4, h) := kq_res
theorem r37_3  : kCode env 37 false inv k (cp c37 28) (act 26 [(0, x0), (1, x1), (10, x10)]) h K =
    K .normal (act 26 [(0, x0), (1, x1), (5, (.int .i64 0))]) h := kq_reg
theorem r37_4  : kCode env 37 false inv k (cp c37 464) (act 26 [(0, x0), (1, x1), (5, x5)]) h K =
    bnd (pLen Tryz.prog #[32] x0 h) fun x13 =>
    bnd (pBin Tryz.prog .lss 3 (.tmp 11) (.tmp 13) x5 x13) fun x14 =>
    K .normal (act 26 [(0, x0), (1, x1), (5, x5), (14, x14)]) h := kq_reg
theorem b37_rlllrlrr  : kCode env 37 false inv k (cp c37 465) (act 26 [(0, x0), (1, x1), (5, x5), (14, x14)]) h K = brV x14 (kCode env 37 false inv k (cp c37 930) (act 26 [(0, x0), (1, x1), (5, x5), (14, x14)]) h K) (kCode env 37 false inv k (cp c37 931) (act 26 [(0, x0), (1, x1), (5, x5), (14, x14)]) h K) := kq_cond
theorem r37_6  : kCode env 37 false inv k (cp c37 1864) (act 26 [(0, x0), (1, x1), (5, x5), (14, x14)]) h K =
    bnd (pIndexAddr Tryz.prog 32 x0 x5) fun x19 =>
    bnd (pLoad Tryz.prog 9 x19 h) fun x20 =>
    bnd (pIndexAddr Tryz.prog 32 x1 x5) fun x23 =>
    bnd (pLoad Tryz.prog 9 x23 h) fun x24 =>
    bnd (pBin Tryz.prog .neq 9 (.tmp 20) (.tmp 24) x20 x24) fun x25 =>
    K .normal (act 26 [(0, x0), (1, x1), (5, x5), (25, x25)]) h := kq_draw
theorem b37_rllrllrlrr  : kCode env 37 false inv k (cp c37 1865) (act 26 [(0, x0), (1, x1), (5, x5), (25, x25)]) h K = brV x25 (kCode env 37 false inv k (cp c37 3730) (act 26 [(0, x0), (1, x1), (5, x5), (25, x25)]) h K) (kCode env 37 false inv k (cp c37 3731) (act 26 [(0, x0), (1, x1), (5, x5), (25, x25)]) h K) := kq_cond
theorem r37_7  : kCode env 37 false inv k (cp c37 7460) (act 26 [(0, x0), (1, x1), (5, x5), (25, x25)]) h K =
    K .normal (act 26 [(4, (.bool false))]) h := kq_reg
theorem r37_5  : kCode env 37 false inv k (cp c37 467) (act 26 [(0, x0), (1, x1), (5, x5), (25, x25)]) h K =
    bnd (pBin Tryz.prog .add 3 (.tmp 15) (.const (.int .i64 1)) x5 (.int .i64 1)) fun x16 =>
    K .normal (act 26 [(0, x0), (1, x1), (5, x16)]) h := kq_reg
noncomputable def F37_lrlrr {β : Type} (inv : Inv) (k : Nat) : Nat → Value → Value → Value → AH → (Value → Value → Value → Value → AH → Option β) → (Value → AH → Option β) → Option β
  | 0, _, _, _, _, _, _ => none
  | j + 1, x0, x1, x5, h, ke0, kr =>
    bnd (pLen Tryz.prog #[32] x0 h) fun x13 =>
    bnd (pBin Tryz.prog .lss 3 (.tmp 11) (.tmp 13) x5 x13) fun x14 =>
    brV x14
    (bnd (pIndexAddr Tryz.prog 32 x0 x5) fun x19 =>
    bnd (pLoad Tryz.prog 9 x19 h) fun x20 =>
    bnd (pIndexAddr Tryz.prog 32 x1 x5) fun x23 =>
    bnd (pLoad Tryz.prog 9 x23 h) fun x24 =>
    bnd (pBin Tryz.prog .neq 9 (.tmp 20) (.tmp 24) x20 x24) fun x25 =>
    brV x25
    (kr (.bool false) h)
    (bnd (pBin Tryz.prog .add 3 (.tmp 15) (.const (.int .i64 1)) x5 (.int .i64 1)) fun x16 =>
    F37_lrlrr inv k j x0 x1 x16 h ke0 kr))
    (ke0 x0 x1 x5 x14 h)
theorem F37_lrlrr_j (j : Nat) : kLoop (kCode env 37 false inv k (cp c37 116)) j (act 26 [(0, x0), (1, x1), (5, x5)]) h K = F37_lrlrr inv k j x0 x1 x5 h (fun y0 y1 y5 y14 h => K (.exit 0) (act 26 [(0, y0), (1, y1), (5, y5), (14, y14)]) h) (fun y4 h => K .ret (act 26 [(4, y4)]) h) := by
      induction j generalizing x0 x1 x5 h with
      | zero => rfl
      | succ j ih =>
        unfold F37_lrlrr
        simp only [kLoop, kq_seq c37 116, kq_seq c37 232, r37_4, b37_rlllrlrr, kq_skip c37 930, kq_seq c37 233, kq_block c37 466 1, kq_seq c37 932, r37_6, b37_rllrllrlrr, kq_seq c37 3730, r37_7, kq_ret c37 7461, kq_skip c37 3731, r37_5, kq_exit c37 931 0, ih, reduceIte, reduceCtorEq, XE.exit.injEq, Nat.reduceEqDiff, Nat.reduceMul, Nat.reduceAdd] <;> kernel_rfl
theorem F37_lrlrr_eq  : kCode env 37 false inv k (cp c37 58) (act 26 [(0, x0), (1, x1), (5, x5)]) h K = F37_lrlrr inv k k x0 x1 x5 h (fun y0 y1 y5 y14 h => K (.exit 0) (act 26 [(0, y0), (1, y1), (5, y5), (14, y14)]) h) (fun y4 h => K .ret (act 26 [(4, y4)]) h) := kq_loop (F37_lrlrr_j k)
theorem r37_8  : kCode env 37 false inv k (cp c37 30) (act 26 [(0, x0), (1, x1), (5, x5), (14, x14)]) h K =
    K .normal (act 26 [(4, (.bool true))]) h := kq_reg
/-- shadowbook/shadowbookkit.Same[string] -/
noncomputable def F37 (inv : Inv) (k : Nat) (x0 x1 : Value) (h : AH) : Option (Value × AH) :=
    bnd (pLen Tryz.prog #[32] x0 h) fun x7 =>
    bnd (pLen Tryz.prog #[32] x1 h) fun x9 =>
    bnd (pBin Tryz.prog .neq 3 (.tmp 7) (.tmp 9) x7 x9) fun x10 =>
    brV x10
    (some ((.bool false), h))
    (F37_lrlrr inv k k x0 x1 (.int .i64 0) h
    (fun y0 y1 y5 y14 h =>
    some ((.bool true), h))
    (fun y4 h_1 =>
    some (y4, h_1)))
theorem F37_eq : eFun env k inv 37 #[x0, x1] h = F37 inv k x0 x1 h := by
      refine (kq_fun (a := act 26 [(0, x0), (1, x1)]) (c := cp c37 1)).trans ?_
      unfold F37
      simp only [kq_seq c37 1, r37_0, kq_seq c37 3, kq_seq c37 6, r37_1, b37_rlr, kq_seq c37 26, r37_2, kq_ret c37 53, res37_0, kq_skip c37 27, kq_seq c37 7, kq_seq c37 14, r37_3, kq_block c37 29 0, F37_lrlrr_eq, kq_seq c37 15, r37_8, kq_ret c37 31, reduceIte, reduceCtorEq, XE.exit.injEq, Nat.reduceEqDiff, Nat.reduceMul, Nat.reduceAdd] <;> kernel_rfl
theorem F37_call : eInv env (k + 1) (.func 37) #[] #[x0, x1] h = F37 (eInv env k) k x0 x1 h := kq_inv F37_eq
noncomputable def c39 : Code := codeOf Tryz.prog 39
theorem r39_0  : kCode env 39 false inv k (cp c39 2) (act 5 [(0, x0)]) h K =
    bnd (pAlloc Tryz.prog 34 h) fun x2 =>
    K .normal (act 5 [(0, x0), (2, x2.1)]) x2.2 := kq_reg
theorem r39_1  : kCode env 39 false inv k (cp c39 6) (act 5 [(0, x0), (2, x2)]) h K =
    bnd (pBuild Tryz.prog 34 #[(0, x0)]) fun x4 =>
    bnd (kSt (pStore Tryz.prog 34 x2 x4 h)) fun u =>
    K .normal (act 5 [(2, x2)]) u.2 := kq_reg
theorem res39_0 : resOfFn env.P 39 .ret (act 5 [(2, x2)]) h = bnd (pLoad Tryz.prog 34 x2 h) fun q0 =>
    some (q0, h) := kq_res
/-- shadowbook/model.failed -/
noncomputable def F39 (inv : Inv) (k : Nat) (x0 : Value) (h : AH) : Option (Value × AH) :=
    bnd (pAlloc Tryz.prog 34 h) fun x2 =>
    bnd (pBuild Tryz.prog 34 #[(0, x0)]) fun x4 =>
    bnd (kSt (pStore Tryz.prog 34 x2.1 x4 x2.2)) fun u =>
    bnd (pLoad Tryz.prog 34 x2.1 u.2) fun q0 =>
    some (q0, u.2)
theorem F39_eq : eFun env k inv 39 #[x0] h = F39 inv k x0 h := by
      refine (kq_fun (a := act 5 [(0, x0)]) (c := cp c39 1)).trans ?_
      unfold F39
      simp only [kq_seq c39 1, r39_0, kq_seq c39 3, r39_1, kq_ret c39 7, res39_0, reduceIte, reduceCtorEq, XE.exit.injEq, Nat.reduceEqDiff, Nat.reduceMul, Nat.reduceAdd] <;> kernel_rfl
theorem F39_call : eInv env (k + 1) (.func 39) #[] #[x0] h = F39 (eInv env k) k x0 h := kq_inv F39_eq
noncomputable def c40 : Code := codeOf Tryz.prog 40
theorem r40_0  : kCode env 40 false inv k (cp c40 2) (act 3 []) h K =
    K .normal (act 3 []) h := kq_reg
noncomputable abbrev G40_1 {β : Type} (inv : Inv) (h : AH) (K : Value → AH → Option β) : Option β :=
    bnd (pMakeMap Tryz.prog 89 none h) fun x1 =>
    bnd (kSt (pUpdate Tryz.prog 89 x1.1 (.int .i64 1) (.func (.func 67) #[] #[]) x1.2)) fun u =>
    bnd (kSt (pUpdate Tryz.prog 89 x1.1 (.int .i64 2) (.func (.func 68) #[] #[]) u.2)) fun u_1 =>
    bnd (kSt (pUpdate Tryz.prog 89 x1.1 (.int .i64 3) (.func (.func 69) #[] #[]) u_1.2)) fun u_2 =>
    bnd (kSt (pUpdate Tryz.prog 89 x1.1 (.int .i64 4) (.func (.func 70) #[] #[]) u_2.2)) fun u_3 =>
    bnd (kSt (pUpdate Tryz.prog 89 x1.1 (.int .i64 5) (.func (.func 71) #[] #[]) u_3.2)) fun u_4 =>
    bnd (kSt (pUpdate Tryz.prog 89 x1.1 (.int .i64 6) (.func (.func 72) #[] #[]) u_4.2)) fun u_5 =>
    bnd (kSt (pUpdate Tryz.prog 89 x1.1 (.int .i64 7) (.func (.func 73) #[] #[]) u_5.2)) fun u_6 =>
    bnd (kSt (pUpdate Tryz.prog 89 x1.1 (.int .i64 8) (.func (.func 74) #[] #[]) u_6.2)) fun u_7 =>
    bnd (kSt (pUpdate Tryz.prog 89 x1.1 (.int .i64 9) (.func (.func 75) #[] #[]) u_7.2)) fun u_8 =>
    bnd (kSt (pUpdate Tryz.prog 89 x1.1 (.int .i64 10) (.func (.func 76) #[] #[]) u_8.2)) fun u_9 =>
    bnd (kSt (pUpdate Tryz.prog 89 x1.1 (.int .i64 11) (.func (.func 77) #[] #[]) u_9.2)) fun u_10 =>
    K (x1.1) u_10.2
theorem r40_1  : kCode env 40 false inv k (cp c40 6) (act 3 []) h K =
    G40_1 inv  h fun y0 h => K .normal (act 3 [(0, y0)]) h := kq_reg
theorem res40_0 : resOfFn env.P 40 .ret (act 3 [(0, x0)]) h = some (x0, h) := kq_res
/-- shadowbook/model.kinds -/
noncomputable def F40 (inv : Inv) (k : Nat) (h : AH) : Option (Value × AH) :=
    G40_1 inv  h fun y0 h =>
    some (y0, h)
theorem F40_eq : eFun env k inv 40 #[] h = F40 inv k  h := by
      refine (kq_fun (a := act 3 []) (c := cp c40 1)).trans ?_
      unfold F40
      simp only [kq_seq c40 1, r40_0, kq_seq c40 3, r40_1, kq_ret c40 7, res40_0, reduceIte, reduceCtorEq, XE.exit.injEq, Nat.reduceEqDiff, Nat.reduceMul, Nat.reduceAdd] <;> kernel_rfl
theorem F40_call : eInv env (k + 1) (.func 40) #[] #[] h = F40 (eInv env k) k  h := kq_inv F40_eq
noncomputable def c42 : Code := codeOf Tryz.prog 42
theorem r42_0  : kCode env 42 false inv k (cp c42 2) (act 9 [(0, x0), (1, x1)]) h K =
    K .normal (act 9 [(0, x0), (1, x1)]) h := kq_reg
theorem r42_1  : kCode env 42 false inv k (cp c42 6) (act 9 [(0, x0), (1, x1)]) h K =
    bnd (inv (.func 43) #[] #[x0, x1] h) fun x7 =>
    bnd (pBin Tryz.prog .eql 3 (.tmp 7) (.const (.int .i64 0)) x7.1 (.int .i64 0)) fun x8 =>
    K .normal (act 9 [(4, x8)]) x7.2 := kq_reg
theorem res42_0 : resOfFn env.P 42 .ret (act 9 [(4, x4)]) h = some (x4, h) := kq_res
/-- shadowbook/model.SameAnswer$1 -/
noncomputable def F42 (inv : Inv) (k : Nat) (x0 x1 : Value) (h : AH) : Option (Value × AH) :=
    bnd (inv (.func 43) #[] #[x0, x1] h) fun x7 =>
    bnd (pBin Tryz.prog .eql 3 (.tmp 7) (.const (.int .i64 0)) x7.1 (.int .i64 0)) fun x8 =>
    some (x8, x7.2)
theorem F42_eq : eFun env k inv 42 #[x0, x1] h = F42 inv k x0 x1 h := by
      refine (kq_fun (a := act 9 [(0, x0), (1, x1)]) (c := cp c42 1)).trans ?_
      unfold F42
      simp only [kq_seq c42 1, r42_0, kq_seq c42 3, r42_1, kq_ret c42 7, res42_0, reduceIte, reduceCtorEq, XE.exit.injEq, Nat.reduceEqDiff, Nat.reduceMul, Nat.reduceAdd] <;> kernel_rfl
theorem F42_call : eInv env (k + 1) (.func 42) #[] #[x0, x1] h = F42 (eInv env k) k x0 x1 h := kq_inv F42_eq
noncomputable def c43 : Code := codeOf Tryz.prog 43
theorem r43_0  : kCode env 43 false inv k (cp c43 2) (act 8 [(0, x0), (1, x1)]) h K =
    K .normal (act 8 [(0, x0), (1, x1)]) h := kq_reg
theorem r43_1  : kCode env 43 false inv k (cp c43 6) (act 8 [(0, x0), (1, x1)]) h K =
    bnd (inv (.func 81) #[] #[x0, x1, (.func (.func 82) #[] #[])] h) fun x7 =>
    K .normal (act 8 [(4, x7.1)]) x7.2 := kq_reg
theorem res43_0 : resOfFn env.P 43 .ret (act 8 [(4, x4)]) h = some (x4, h) := kq_res
/-- shadowbook/value.Rows -/
noncomputable def F43 (inv : Inv) (k : Nat) (x0 x1 : Value) (h : AH) : Option (Value × AH) :=
    bnd (inv (.func 81) #[] #[x0, x1, (.func (.func 82) #[] #[])] h) fun x7 =>
    some (x7.1, x7.2)
theorem F43_eq : eFun env k inv 43 #[x0, x1] h = F43 inv k x0 x1 h := by
      refine (kq_fun (a := act 8 [(0, x0), (1, x1)]) (c := cp c43 1)).trans ?_
      unfold F43
      simp only [kq_seq c43 1, r43_0, kq_seq c43 3, r43_1, kq_ret c43 7, res43_0, reduceIte, reduceCtorEq, XE.exit.injEq, Nat.reduceEqDiff, Nat.reduceMul, Nat.reduceAdd] <;> kernel_rfl
theorem F43_call : eInv env (k + 1) (.func 43) #[] #[x0, x1] h = F43 (eInv env k) k x0 x1 h := kq_inv F43_eq
noncomputable def c44 : Code := codeOf Tryz.prog 44
theorem r44_0  : kCode env 44 false inv k (cp c44 2) (act 26 [(0, x0), (1, x1)]) h K =
    K .normal (act 26 [(0, x0), (1, x1)]) h := kq_reg
theorem r44_1  : kCode env 44 false inv k (cp c44 12) (act 26 [(0, x0), (1, x1)]) h K =
    bnd (pLen Tryz.prog #[32] x0 h) fun x7 =>
    bnd (pLen Tryz.prog #[32] x1 h) fun x9 =>
    bnd (pBin Tryz.prog .neq 3 (.tmp 7) (.tmp 9) x7 x9) fun x10 =>
    K .normal (act 26 [(0, x0), (1, x1), (10, x10)]) h := kq_reg
theorem b44_rlr  : kCode env 44 false inv k (cp c44 13) (act 26 [(0, x0), (1, x1), (10, x10)]) h K = brV x10 (kCode env 44 false inv k (cp c44 26) (act 26 [(0, x0), (1, x1), (10, x10)]) h K) (kCode env 44 false inv k (cp c44 27) (act 26 [(0, x0), (1, x1), (10, x10)]) h K) := kq_cond
theorem r44_2  : kCode env 44 false inv k (cp c44 52) (act 26 [(0, x0), (1, x1), (10, x10)]) h K =
    K .normal (act 26 [(4, (.bool false))]) h := kq_reg
theorem res44_0 : resOfFn env.P 44 .ret (act 26 [(4, x4)]) h = some (x4, h) := kq_res
theorem r44_3  : kCode env 44 false inv k (cp c44 28) (act 26 [(0, x0), (1, x1), (10, x10)]) h K =
    bnd (pLen Tryz.prog #[32] x0 h) fun x12 =>
    K .normal (act 26 [(0, x0), (1, x1), (12, x12), (13, (.int .i64 0))]) h := kq_reg
theorem r44_4  : kCode env 44 false inv k (cp c44 232) (act 26 [(0, x0), (1, x1), (12, x12), (13, x13)]) h K =
    bnd (pBin Tryz.prog .lss 3 (.tmp 13) (.tmp 12) x13 x12) fun x14 =>
    K .normal (act 26 [(0, x0), (1, x1), (12, x12), (13, x13), (14, x14)]) h := kq_reg
theorem b44_lrllrlrr  : kCode env 44 false inv k (cp c44 466) (act 26 [(0, x0), (1, x1), (12, x12), (13, x13), (14, x14)]) h K = brV x14 (kCode env 44 false inv k (cp c44 932) (act 26 [(0, x0), (1, x1), (12, x12), (13, x13), (14, x14)]) h K) (kCode env 44 false inv k (cp c44 933) (act 26 [(0, x0), (1, x1), (12, x12), (13, x13), (14, x14)]) h K) := kq_cond
theorem r44_5  : kCode env 44 false inv k (cp c44 3736) (act 26 [(0, x0), (1, x1), (12, x12), (13, x13), (14, x14)]) h K =
    K .normal (act 26 [(0, x0), (1, x1), (5, x13), (12, x12), (13, x13)]) h := kq_reg
theorem r44_6  : kCode env 44 false inv k (cp c44 7474) (act 26 [(0, x0), (1, x1), (5, x5), (12, x12), (13, x13)]) h K =
    bnd (pIndexAddr Tryz.prog 32 x0 x5) fun x18 =>
    bnd (pLoad Tryz.prog 9 x18 h) fun x19 =>
    bnd (pIndexAddr Tryz.prog 32 x1 x5) fun x22 =>
    bnd (pLoad Tryz.prog 9 x22 h) fun x23 =>
    bnd (pBin Tryz.prog .neq 9 (.tmp 19) (.tmp 23) x19 x23) fun x24 =>
    K .normal (act 26 [(0, x0), (1, x1), (12, x12), (13, x13), (24, x24)]) h := kq_draw
theorem b44_rrllrrllrlrr  : kCode env 44 false inv k (cp c44 7475) (act 26 [(0, x0), (1, x1), (12, x12), (13, x13), (24, x24)]) h K = brV x24 (kCode env 44 false inv k (cp c44 14950) (act 26 [(0, x0), (1, x1), (12, x12), (13, x13), (24, x24)]) h K) (kCode env 44 false inv k (cp c44 14951) (act 26 [(0, x0), (1, x1), (12, x12), (13, x13), (24, x24)]) h K) := kq_cond
theorem r44_7  : kCode env 44 false inv k (cp c44 29900) (act 26 [(0, x0), (1, x1), (12, x12), (13, x13), (24, x24)]) h K =
    K .normal (act 26 [(4, (.bool false))]) h := kq_reg
theorem r44_8  : kCode env 44 false inv k (cp c44 935) (act 26 [(0, x0), (1, x1), (12, x12), (13, x13), (24, x24)]) h K =
    bnd (pBin Tryz.prog .add 3 (.tmp 13) (.const (.int .i64 1)) x13 (.int .i64 1)) fun x25 =>
    K .normal (act 26 [(0, x0), (1, x1), (12, x12), (13, x25)]) h := kq_reg
noncomputable def F44_lrlrr {β : Type} (inv : Inv) (k : Nat) : Nat → Value → Value → Value → Value → AH → (Value → Value → Value → Value → Value → AH → Option β) → (Value → AH → Option β) → Option β
  | 0, _, _, _, _, _, _, _ => none
  | j + 1, x0, x1, x12, x13, h, ke0, kr =>
    bnd (pBin Tryz.prog .lss 3 (.tmp 13) (.tmp 12) x13 x12) fun x14 =>
    brV x14
    (bnd (pIndexAddr Tryz.prog 32 x0 x13) fun x18 =>
    bnd (pLoad Tryz.prog 9 x18 h) fun x19 =>
    bnd (pIndexAddr Tryz.prog 32 x1 x13) fun x22 =>
    bnd (pLoad Tryz.prog 9 x22 h) fun x23 =>
    bnd (pBin Tryz.prog .neq 9 (.tmp 19) (.tmp 23) x19 x23) fun x24 =>
    brV x24
    (kr (.bool false) h)
    (bnd (pBin Tryz.prog .add 3 (.tmp 13) (.const (.int .i64 1)) x13 (.int .i64 1)) fun x25 =>
    F44_lrlrr inv k j x0 x1 x12 x25 h ke0 kr))
    (ke0 x0 x1 x12 x13 x14 h)
theorem F44_lrlrr_j (j : Nat) : kLoop (kCode env 44 false inv k (cp c44 116)) j (act 26 [(0, x0), (1, x1), (12, x12), (13, x13)]) h K = F44_lrlrr inv k j x0 x1 x12 x13 h (fun y0 y1 y12 y13 y14 h => K (.exit 0) (act 26 [(0, y0), (1, y1), (12, y12), (13, y13), (14, y14)]) h) (fun y4 h => K .ret (act 26 [(4, y4)]) h) := by
      induction j generalizing x0 x1 x12 x13 h with
      | zero => rfl
      | succ j ih =>
        unfold F44_lrlrr
        simp only [kLoop, kq_seq c44 116, r44_4, kq_seq c44 233, b44_lrllrlrr, kq_skip c44 932, kq_seq c44 467, kq_block c44 934 1, kq_seq c44 1868, r44_5, kq_seq c44 3737, r44_6, b44_rrllrrllrlrr, kq_seq c44 14950, r44_7, kq_ret c44 29901, kq_skip c44 14951, r44_8, kq_exit c44 933 0, ih, reduceIte, reduceCtorEq, XE.exit.injEq, Nat.reduceEqDiff, Nat.reduceMul, Nat.reduceAdd] <;> kernel_rfl
theorem F44_lrlrr_eq  : kCode env 44 false inv k (cp c44 58) (act 26 [(0, x0), (1, x1), (12, x12), (13, x13)]) h K = F44_lrlrr inv k k x0 x1 x12 x13 h (fun y0 y1 y12 y13 y14 h => K (.exit 0) (act 26 [(0, y0), (1, y1), (12, y12), (13, y13), (14, y14)]) h) (fun y4 h => K .ret (act 26 [(4, y4)]) h) := kq_loop (F44_lrlrr_j k)
theorem r44_9  : kCode env 44 false inv k (cp c44 30) (act 26 [(0, x0), (1, x1), (12, x12), (13, x13), (14, x14)]) h K =
    K .normal (act 26 [(4, (.bool true))]) h := kq_reg
/-- slices.Equal[[]string,string] -/
noncomputable def F44 (inv : Inv) (k : Nat) (x0 x1 : Value) (h : AH) : Option (Value × AH) :=
    bnd (pLen Tryz.prog #[32] x0 h) fun x7 =>
    bnd (pLen Tryz.prog #[32] x1 h) fun x9 =>
    bnd (pBin Tryz.prog .neq 3 (.tmp 7) (.tmp 9) x7 x9) fun x10 =>
    brV x10
    (some ((.bool false), h))
    (bnd (pLen Tryz.prog #[32] x0 h) fun x12 =>
    F44_lrlrr inv k k x0 x1 x12 (.int .i64 0) h
    (fun y0 y1 y12 y13 y14 h =>
    some ((.bool true), h))
    (fun y4 h_1 =>
    some (y4, h_1)))
theorem F44_eq : eFun env k inv 44 #[x0, x1] h = F44 inv k x0 x1 h := by
      refine (kq_fun (a := act 26 [(0, x0), (1, x1)]) (c := cp c44 1)).trans ?_
      unfold F44
      simp only [kq_seq c44 1, r44_0, kq_seq c44 3, kq_seq c44 6, r44_1, b44_rlr, kq_seq c44 26, r44_2, kq_ret c44 53, res44_0, kq_skip c44 27, kq_seq c44 7, kq_seq c44 14, r44_3, kq_block c44 29 0, F44_lrlrr_eq, kq_seq c44 15, r44_9, kq_ret c44 31, reduceIte, reduceCtorEq, XE.exit.injEq, Nat.reduceEqDiff, Nat.reduceMul, Nat.reduceAdd] <;> kernel_rfl
theorem F44_call : eInv env (k + 1) (.func 44) #[] #[x0, x1] h = F44 (eInv env k) k x0 x1 h := kq_inv F44_eq
noncomputable def c45 : Code := codeOf Tryz.prog 45
theorem r45_0  : kCode env 45 false inv k (cp c45 2) (act 32 [(0, x0), (1, x1), (2, x2)]) h K =
    K .normal (act 32 [(0, x0), (1, x1), (2, x2)]) h := kq_reg
theorem r45_1  : kCode env 45 false inv k (cp c45 12) (act 32 [(0, x0), (1, x1), (2, x2)]) h K =
    bnd (pLen Tryz.prog #[31] x0 h) fun x11 =>
    bnd (pLen Tryz.prog #[31] x1 h) fun x13 =>
    bnd (pBin Tryz.prog .neq 3 (.tmp 11) (.tmp 13) x11 x13) fun x14 =>
    K .normal (act 32 [(0, x0), (1, x1), (2, x2), (14, x14)]) h := kq_reg
theorem b45_rlr  : kCode env 45 false inv k (cp c45 13) (act 32 [(0, x0), (1, x1), (2, x2), (14, x14)]) h K = brV x14 (kCode env 45 false inv k (cp c45 26) (act 32 [(0, x0), (1, x1), (2, x2), (14, x14)]) h K) (kCode env 45 false inv k (cp c45 27) (act 32 [(0, x0), (1, x1), (2, x2), (14, x14)]) h K) := kq_cond
theorem r45_2  : kCode env 45 false inv k (cp c45 52) (act 32 [(0, x0), (1, x1), (2, x2), (14, x14)]) h K =
    K .normal (act 32 [(6, (.bool false))]) h := kq_reg
theorem res45_0 : resOfFn env.P 45 .ret (act 32 [(6, x6)]) h = some (x6, h) := kq_res
theorem r45_3  : kCode env 45 false inv k (cp c45 28) (act 32 [(0, x0), (1, x1), (2, x2), (14, x14)]) h K =
    bnd (pLen Tryz.prog #[31] x0 h) fun x16 =>
    K .normal (act 32 [(1, x1), (2, x2), (15, x0), (16, x16), (17, (.int .i64 0))]) h := kq_reg
theorem r45_4  : kCode env 45 false inv k (cp c45 232) (act 32 [(1, x1), (2, x2), (15, x15), (16, x16), (17, x17)]) h K =
    bnd (pBin Tryz.prog .lss 3 (.tmp 17) (.tmp 16) x17 x16) fun x18 =>
    K .normal (act 32 [(1, x1), (2, x2), (15, x15), (16, x16), (17, x17), (18, x18)]) h := kq_reg
theorem b45_lrllrlrr  : kCode env 45 false inv k (cp c45 466) (act 32 [(1, x1), (2, x2), (15, x15), (16, x16), (17, x17), (18, x18)]) h K = brV x18 (kCode env 45 false inv k (cp c45 932) (act 32 [(1, x1), (2, x2), (15, x15), (16, x16), (17, x17), (18, x18)]) h K) (kCode env 45 false inv k (cp c45 933) (act 32 [(1, x1), (2, x2), (15, x15), (16, x16), (17, x17), (18, x18)]) h K) := kq_cond
theorem r45_5  : kCode env 45 false inv k (cp c45 3736) (act 32 [(1, x1), (2, x2), (15, x15), (16, x16), (17, x17), (18, x18)]) h K =
    bnd (pIndexAddr Tryz.prog 31 x15 x17) fun x20 =>
    bnd (pLoad Tryz.prog 45 x20 h) fun x21 =>
    K .normal (act 32 [(1, x1), (2, x2), (7, x17), (8, x21), (15, x15), (16, x16), (17, x17)]) h := kq_reg
theorem r45_6  : kCode env 45 false inv k (cp c45 7474) (act 32 [(1, x1), (2, x2), (7, x7), (8, x8), (15, x15), (16, x16), (17, x17)]) h K =
    bnd (pIndexAddr Tryz.prog 31 x1 x7) fun x24 =>
    bnd (pLoad Tryz.prog 45 x24 h) fun x25 =>
    K .normal (act 32 [(1, x1), (2, x2), (8, x8), (9, x25), (15, x15), (16, x16), (17, x17)]) h := kq_reg
theorem r45_7  : kCode env 45 false inv k (cp c45 14950) (act 32 [(1, x1), (2, x2), (8, x8), (9, x9), (15, x15), (16, x16), (17, x17)]) h K =
    bnd (callV inv x2 #[x8, x9] h) fun x29 =>
    bnd (pUn Tryz.prog .not x29.1) fun x30 =>
    K .normal (act 32 [(1, x1), (2, x2), (15, x15), (16, x16), (17, x17), (30, x30)]) x29.2 := kq_reg
theorem b45_rrrllrrllrlrr  : kCode env 45 false inv k (cp c45 14951) (act 32 [(1, x1), (2, x2), (15, x15), (16, x16), (17, x17), (30, x30)]) h K = brV x30 (kCode env 45 false inv k (cp c45 29902) (act 32 [(1, x1), (2, x2), (15, x15), (16, x16), (17, x17), (30, x30)]) h K) (kCode env 45 false inv k (cp c45 29903) (act 32 [(1, x1), (2, x2), (15, x15), (16, x16), (17, x17), (30, x30)]) h K) := kq_cond
theorem r45_8  : kCode env 45 false inv k (cp c45 59804) (act 32 [(1, x1), (2, x2), (15, x15), (16, x16), (17, x17), (30, x30)]) h K =
    K .normal (act 32 [(6, (.bool false))]) h := kq_reg
theorem r45_9  : kCode env 45 false inv k (cp c45 935) (act 32 [(1, x1), (2, x2), (15, x15), (16, x16), (17, x17), (30, x30)]) h K =
    bnd (pBin Tryz.prog .add 3 (.tmp 17) (.const (.int .i64 1)) x17 (.int .i64 1)) fun x31 =>
    K .normal (act 32 [(1, x1), (2, x2), (15, x15), (16, x16), (17, x31)]) h := kq_reg
noncomputable def F45_lrlrr {β : Type} (inv : Inv) (k : Nat) : Nat → Value → Value → Value → Value → Value → AH → (Value → Value → Value → Value → Value → Value → AH → Option β) → (Value → AH → Option β) → Option β
  | 0, _, _, _, _, _, _, _, _ => none
  | j + 1, x1, x2, x15, x16, x17, h, ke0, kr =>
    bnd (pBin Tryz.prog .lss 3 (.tmp 17) (.tmp 16) x17 x16) fun x18 =>
    brV x18
    (bnd (pIndexAddr Tryz.prog 31 x15 x17) fun x20 =>
    bnd (pLoad Tryz.prog 45 x20 h) fun x21 =>
    bnd (pIndexAddr Tryz.prog 31 x1 x17) fun x24 =>
    bnd (pLoad Tryz.prog 45 x24 h) fun x25 =>
    bnd (callV inv x2 #[x21, x25] h) fun x29 =>
    bnd (pUn Tryz.prog .not x29.1) fun x30 =>
    brV x30
    (kr (.bool false) x29.2)
    (bnd (pBin Tryz.prog .add 3 (.tmp 17) (.const (.int .i64 1)) x17 (.int .i64 1)) fun x31 =>
    F45_lrlrr inv k j x1 x2 x15 x16 x31 x29.2 ke0 kr))
    (ke0 x1 x2 x15 x16 x17 x18 h)
theorem F45_lrlrr_j (j : Nat) : kLoop (kCode env 45 false inv k (cp c45 116)) j (act 32 [(1, x1), (2, x2), (15, x15), (16, x16), (17, x17)]) h K = F45_lrlrr inv k j x1 x2 x15 x16 x17 h (fun y1 y2 y15 y16 y17 y18 h => K (.exit 0) (act 32 [(1, y1), (2, y2), (15, y15), (16, y16), (17, y17), (18, y18)]) h) (fun y6 h => K .ret (act 32 [(6, y6)]) h) := by
      induction j generalizing x1 x2 x15 x16 x17 h with
      | zero => rfl
      | succ j ih =>
        unfold F45_lrlrr
        simp only [kLoop, kq_seq c45 116, r45_4, kq_seq c45 233, b45_lrllrlrr, kq_skip c45 932, kq_seq c45 467, kq_block c45 934 1, kq_seq c45 1868, r45_5, kq_seq c45 3737, r45_6, kq_seq c45 7475, r45_7, b45_rrrllrrllrlrr, kq_seq c45 29902, r45_8, kq_ret c45 59805, kq_skip c45 29903, r45_9, kq_exit c45 933 0, ih, reduceIte, reduceCtorEq, XE.exit.injEq, Nat.reduceEqDiff, Nat.reduceMul, Nat.reduceAdd] <;> kernel_rfl
theorem F45_lrlrr_eq  : kCode env 45 false inv k (cp c45 58) (act 32 [(1, x1), (2, x2), (15, x15), (16, x16), (17, x17)]) h K = F45_lrlrr inv k k x1 x2 x15 x16 x17 h (fun y1 y2 y15 y16 y17 y18 h => K (.exit 0) (act 32 [(1, y1), (2, y2), (15, y15), (16, y16), (17, y17), (18, y18)]) h) (fun y6 h => K .ret (act 32 [(6, y6)]) h) := kq_loop (F45_lrlrr_j k)
theorem r45_10  : kCode env 45 false inv k (cp c45 30) (act 32 [(1, x1), (2, x2), (15, x15), (16, x16), (17, x17), (18, x18)]) h K =
    K .normal (act 32 [(6, (.bool true))]) h := kq_reg
/-- slices.EqualFunc[[][]shadowbook/api.Cell,[][]shadowbook/api.Cell,[]shadowbook/api.Cell,[]shadowbook/api.Cell] -/
noncomputable def F45 (inv : Inv) (k : Nat) (x0 x1 x2 : Value) (h : AH) : Option (Value × AH) :=
    bnd (pLen Tryz.prog #[31] x0 h) fun x11 =>
    bnd (pLen Tryz.prog #[31] x1 h) fun x13 =>
    bnd (pBin Tryz.prog .neq 3 (.tmp 11) (.tmp 13) x11 x13) fun x14 =>
    brV x14
    (some ((.bool false), h))
    (bnd (pLen Tryz.prog #[31] x0 h) fun x16 =>
    F45_lrlrr inv k k x1 x2 x0 x16 (.int .i64 0) h
    (fun y1 y2 y15 y16 y17 y18 h =>
    some ((.bool true), h))
    (fun y6 h_1 =>
    some (y6, h_1)))
theorem F45_eq : eFun env k inv 45 #[x0, x1, x2] h = F45 inv k x0 x1 x2 h := by
      refine (kq_fun (a := act 32 [(0, x0), (1, x1), (2, x2)]) (c := cp c45 1)).trans ?_
      unfold F45
      simp only [kq_seq c45 1, r45_0, kq_seq c45 3, kq_seq c45 6, r45_1, b45_rlr, kq_seq c45 26, r45_2, kq_ret c45 53, res45_0, kq_skip c45 27, kq_seq c45 7, kq_seq c45 14, r45_3, kq_block c45 29 0, F45_lrlrr_eq, kq_seq c45 15, r45_10, kq_ret c45 31, reduceIte, reduceCtorEq, XE.exit.injEq, Nat.reduceEqDiff, Nat.reduceMul, Nat.reduceAdd] <;> kernel_rfl
theorem F45_call : eInv env (k + 1) (.func 45) #[] #[x0, x1, x2] h = F45 (eInv env k) k x0 x1 x2 h := kq_inv F45_eq
noncomputable def c46 : Code := codeOf Tryz.prog 46
theorem r46_0  : kCode env 46 false inv k (cp c46 2) (act 31 [(0, x0)]) h K =
    bnd (pBox Tryz.prog 58 x0 h) fun x1 =>
    bnd (pAlloc Tryz.prog 58 x1.2) fun x2 =>
    K .normal (act 31 [(1, x1.1), (2, x2.1)]) x2.2 := kq_reg
noncomputable abbrev G46_1 {β : Type} (inv : Inv) (x1 x2 : Value) (h : AH) (K : Value → AH → Option β) : Option β :=
    bnd (pAlloc Tryz.prog 58 h) fun x3 =>
    bnd (pFieldAddr Tryz.prog 58 x1 0) fun x6 =>
    bnd (pLoad Tryz.prog 55 x6 x3.2) fun x7 =>
    bnd (inv (.func 83) #[] #[x7] x3.2) fun x8 =>
    bnd (pFieldAddr Tryz.prog 58 x1 1) fun x9 =>
    bnd (pLoad Tryz.prog 56 x9 x8.2) fun x10 =>
    bnd (inv (.func 84) #[] #[x10] x8.2) fun x11 =>
    bnd (pBuild Tryz.prog 58 #[(0, x8.1), (1, x11.1)]) fun x12 =>
    bnd (kSt (pStore Tryz.prog 58 x3.1 x12 x11.2)) fun u =>
    chkK ((!true || !true || (sameO (pLoad Tryz.prog 55 x6 h) x7 && sameO (pLoad Tryz.prog 55 x6 x3.2) x7)) && ((!true || !true || (sameO (pLoad Tryz.prog 56 x9 h) x10 && sameO (pLoad Tryz.prog 56 x9 x3.2) x10)) && ((!true || !true || (sameO (pLoad Tryz.prog 56 x9 x3.2) x10 && sameO (pLoad Tryz.prog 56 x9 x8.2) x10)) && true))) <|
    K (x3.1) u.2
theorem r46_1  : kCode env 46 false inv k (cp c46 6) (act 31 [(1, x1), (2, x2)]) h K =
    G46_1 inv x1 x2 h fun y3 h => K .normal (act 31 [(2, x2), (3, y3)]) h := kq_draw
theorem r46_2  : kCode env 46 false inv k (cp c46 28) (act 31 [(2, x2), (3, x3)]) h K =
    bnd (pFieldAddr Tryz.prog 58 x3 1) fun x13 =>
    bnd (pLoad Tryz.prog 56 x13 h) fun x14 =>
    bnd (pLen Tryz.prog #[56] x14 h) fun x15 =>
    K .normal (act 31 [(2, x2), (3, x3), (14, x14), (15, x15), (16, (.int .i64 0))]) h := kq_reg
theorem r46_3  : kCode env 46 false inv k (cp c46 232) (act 31 [(2, x2), (3, x3), (14, x14), (15, x15), (16, x16)]) h K =
    bnd (pBin Tryz.prog .lss 3 (.tmp 16) (.tmp 15) x16 x15) fun x17 =>
    K .normal (act 31 [(2, x2), (3, x3), (14, x14), (15, x15), (16, x16), (17, x17)]) h := kq_reg
theorem b46_lrllrlrr  : kCode env 46 false inv k (cp c46 466) (act 31 [(2, x2), (3, x3), (14, x14), (15, x15), (16, x16), (17, x17)]) h K = brV x17 (kCode env 46 false inv k (cp c46 932) (act 31 [(2, x2), (3, x3), (14, x14), (15, x15), (16, x16), (17, x17)]) h K) (kCode env 46 false inv k (cp c46 933) (act 31 [(2, x2), (3, x3), (14, x14), (15, x15), (16, x16), (17, x17)]) h K) := kq_cond
theorem r46_4  : kCode env 46 false inv k (cp c46 3736) (act 31 [(2, x2), (3, x3), (14, x14), (15, x15), (16, x16), (17, x17)]) h K =
    bnd (pIndexAddr Tryz.prog 56 x14 x16) fun x19 =>
    bnd (pLoad Tryz.prog 81 x19 h) fun x20 =>
    bnd (pAlloc Tryz.prog 81 h) fun x5 =>
    bnd (kSt (pStore Tryz.prog 81 x5.1 x20 x5.2)) fun u =>
    K .normal (act 31 [(2, x2), (3, x3), (4, x16), (5, x5.1), (14, x14), (15, x15), (16, x16)]) u.2 := kq_reg
noncomputable abbrev G46_5 {β : Type} (inv : Inv) (x2 x3 x4 x5 x14 x15 x16 : Value) (h : AH) (K : AH → Option β) : Option β :=
    bnd (pFieldAddr Tryz.prog 58 x3 1) fun x21 =>
    bnd (pLoad Tryz.prog 56 x21 h) fun x22 =>
    bnd (pFieldAddr Tryz.prog 81 x5 1) fun x24 =>
    bnd (pLoad Tryz.prog 55 x24 h) fun x25 =>
    bnd (inv (.func 83) #[] #[x25] h) fun x26 =>
    bnd (pIndexAddr Tryz.prog 56 x22 x4) fun x27 =>
    bnd (pFieldAddr Tryz.prog 81 x27 1) fun x28 =>
    bnd (kSt (pStore Tryz.prog 55 x28 x26.1 x26.2)) fun u =>
    chkK ((!true || !true || (sameO (pLoad Tryz.prog 56 x21 h) x22 && sameO (pLoad Tryz.prog 56 x21 x26.2) x22)) && true) <|
    K u.2
theorem r46_5  : kCode env 46 false inv k (cp c46 3737) (act 31 [(2, x2), (3, x3), (4, x4), (5, x5), (14, x14), (15, x15), (16, x16)]) h K =
    G46_5 inv x2 x3 x4 x5 x14 x15 x16 h fun  h => K .normal (act 31 [(2, x2), (3, x3), (14, x14), (15, x15), (16, x16)]) h := kq_draw
theorem r46_6  : kCode env 46 false inv k (cp c46 935) (act 31 [(2, x2), (3, x3), (14, x14), (15, x15), (16, x16)]) h K =
    bnd (pBin Tryz.prog .add 3 (.tmp 16) (.const (.int .i64 1)) x16 (.int .i64 1)) fun x29 =>
    K .normal (act 31 [(2, x2), (3, x3), (14, x14), (15, x15), (16, x29)]) h := kq_reg
noncomputable def F46_lrlrr {β : Type} (inv : Inv) (k : Nat) : Nat → Value → Value → Value → Value → Value → AH → (Value → Value → Value → Value → Value → Value → AH → Option β) → Option β
  | 0, _, _, _, _, _, _, _ => none
  | j + 1, x2, x3, x14, x15, x16, h, ke0 =>
    bnd (pBin Tryz.prog .lss 3 (.tmp 16) (.tmp 15) x16 x15) fun x17 =>
    brV x17
    (bnd (pIndexAddr Tryz.prog 56 x14 x16) fun x19 =>
    bnd (pLoad Tryz.prog 81 x19 h) fun x20 =>
    bnd (pAlloc Tryz.prog 81 h) fun x5 =>
    bnd (kSt (pStore Tryz.prog 81 x5.1 x20 x5.2)) fun u =>
    G46_5 inv x2 x3 x16 x5.1 x14 x15 x16 u.2 fun  h =>
    bnd (pBin Tryz.prog .add 3 (.tmp 16) (.const (.int .i64 1)) x16 (.int .i64 1)) fun x29 =>
    F46_lrlrr inv k j x2 x3 x14 x15 x29 h ke0)
    (ke0 x2 x3 x14 x15 x16 x17 h)
theorem F46_lrlrr_j (j : Nat) : kLoop (kCode env 46 false inv k (cp c46 116)) j (act 31 [(2, x2), (3, x3), (14, x14), (15, x15), (16, x16)]) h K = F46_lrlrr inv k j x2 x3 x14 x15 x16 h (fun y2 y3 y14 y15 y16 y17 h => K (.exit 0) (act 31 [(2, y2), (3, y3), (14, y14), (15, y15), (16, y16), (17, y17)]) h) := by
      induction j generalizing x2 x3 x14 x15 x16 h with
      | zero => rfl
      | succ j ih =>
        unfold F46_lrlrr
        simp only [kLoop, kq_seq c46 116, r46_3, kq_seq c46 233, b46_lrllrlrr, kq_skip c46 932, kq_seq c46 467, kq_block c46 934 1, kq_seq c46 1868, r46_4, r46_5, r46_6, kq_exit c46 933 0, ih, reduceIte, reduceCtorEq, XE.exit.injEq, Nat.reduceEqDiff, Nat.reduceMul, Nat.reduceAdd] <;> kernel_rfl
theorem F46_lrlrr_eq  : kCode env 46 false inv k (cp c46 58) (act 31 [(2, x2), (3, x3), (14, x14), (15, x15), (16, x16)]) h K = F46_lrlrr inv k k x2 x3 x14 x15 x16 h (fun y2 y3 y14 y15 y16 y17 h => K (.exit 0) (act 31 [(2, y2), (3, y3), (14, y14), (15, y15), (16, y16), (17, y17)]) h) := kq_loop (F46_lrlrr_j k)
theorem r46_7  : kCode env 46 false inv k (cp c46 30) (act 31 [(2, x2), (3, x3), (14, x14), (15, x15), (16, x16), (17, x17)]) h K =
    bnd (pLoad Tryz.prog 58 x3 h) fun x30 =>
    bnd (kSt (pStore Tryz.prog 58 x2 x30 h)) fun u =>
    K .normal (act 31 [(2, x2)]) u.2 := kq_reg
theorem res46_0 : resOfFn env.P 46 .ret (act 31 [(2, x2)]) h = bnd (pLoad Tryz.prog 58 x2 h) fun q0 =>
    some (q0, h) := kq_res
/-- shadowbook/model.copyBase -/
noncomputable def F46 (inv : Inv) (k : Nat) (x0 : Value) (h : AH) : Option (Value × AH) :=
    bnd (pBox Tryz.prog 58 x0 h) fun x1 =>
    bnd (pAlloc Tryz.prog 58 x1.2) fun x2 =>
    G46_1 inv x1.1 x2.1 x2.2 fun y3 h =>
    bnd (pFieldAddr Tryz.prog 58 y3 1) fun x13 =>
    bnd (pLoad Tryz.prog 56 x13 h) fun x14 =>
    bnd (pLen Tryz.prog #[56] x14 h) fun x15 =>
    F46_lrlrr inv k k x2.1 y3 x14 x15 (.int .i64 0) h
    (fun y2 y3_1 y14 y15 y16 y17 h_2 =>
    bnd (pLoad Tryz.prog 58 y3_1 h_2) fun x30 =>
    bnd (kSt (pStore Tryz.prog 58 y2 x30 h_2)) fun u =>
    bnd (pLoad Tryz.prog 58 y2 u.2) fun q0 =>
    some (q0, u.2))
theorem F46_eq : eFun env k inv 46 #[x0] h = F46 inv k x0 h := by
      refine (kq_fun (a := act 31 [(0, x0)]) (c := cp c46 1)).trans ?_
      unfold F46
      simp only [kq_seq c46 1, r46_0, kq_seq c46 3, r46_1, kq_seq c46 7, kq_seq c46 14, r46_2, kq_block c46 29 0, F46_lrlrr_eq, kq_seq c46 15, r46_7, kq_ret c46 31, res46_0, reduceIte, reduceCtorEq, XE.exit.injEq, Nat.reduceEqDiff, Nat.reduceMul, Nat.reduceAdd] <;> kernel_rfl
theorem F46_call : eInv env (k + 1) (.func 46) #[] #[x0] h = F46 (eInv env k) k x0 h := kq_inv F46_eq
noncomputable def c47 : Code := codeOf Tryz.prog 47
theorem r47_0  : kCode env 47 false inv k (cp c47 2) (act 32 [(0, x0), (1, x1), (2, x2)]) h K =
    K .normal (act 32 [(0, x0), (1, x1), (2, x2)]) h := kq_reg
theorem r47_1  : kCode env 47 false inv k (cp c47 12) (act 32 [(0, x0), (1, x1), (2, x2)]) h K =
    bnd (pLen Tryz.prog #[55] x0 h) fun x11 =>
    bnd (pLen Tryz.prog #[55] x1 h) fun x13 =>
    bnd (pBin Tryz.prog .neq 3 (.tmp 11) (.tmp 13) x11 x13) fun x14 =>
    K .normal (act 32 [(0, x0), (1, x1), (2, x2), (14, x14)]) h := kq_reg
theorem b47_rlr  : kCode env 47 false inv k (cp c47 13) (act 32 [(0, x0), (1, x1), (2, x2), (14, x14)]) h K = brV x14 (kCode env 47 false inv k (cp c47 26) (act 32 [(0, x0), (1, x1), (2, x2), (14, x14)]) h K) (kCode env 47 false inv k (cp c47 27) (act 32 [(0, x0), (1, x1), (2, x2), (14, x14)]) h K) := kq_cond
theorem r47_2  : kCode env 47 false inv k (cp c47 52) (act 32 [(0, x0), (1, x1), (2, x2), (14, x14)]) h K =
    K .normal (act 32 [(6, (.bool false))]) h := kq_reg
theorem res47_0 : resOfFn env.P 47 .ret (act 32 [(6, x6)]) h = some (x6, h) := kq_res
theorem r47_3  : kCode env 47 false inv k (cp c47 28) (act 32 [(0, x0), (1, x1), (2, x2), (14, x14)]) h K =
    bnd (pLen Tryz.prog #[55] x0 h) fun x16 =>
    K .normal (act 32 [(1, x1), (2, x2), (15, x0), (16, x16), (17, (.int .i64 0))]) h := kq_reg
theorem r47_4  : kCode env 47 false inv k (cp c47 232) (act 32 [(1, x1), (2, x2), (15, x15), (16, x16), (17, x17)]) h K =
    bnd (pBin Tryz.prog .lss 3 (.tmp 17) (.tmp 16) x17 x16) fun x18 =>
    K .normal (act 32 [(1, x1), (2, x2), (15, x15), (16, x16), (17, x17), (18, x18)]) h := kq_reg
theorem b47_lrllrlrr  : kCode env 47 false inv k (cp c47 466) (act 32 [(1, x1), (2, x2), (15, x15), (16, x16), (17, x17), (18, x18)]) h K = brV x18 (kCode env 47 false inv k (cp c47 932) (act 32 [(1, x1), (2, x2), (15, x15), (16, x16), (17, x17), (18, x18)]) h K) (kCode env 47 false inv k (cp c47 933) (act 32 [(1, x1), (2, x2), (15, x15), (16, x16), (17, x17), (18, x18)]) h K) := kq_cond
theorem r47_5  : kCode env 47 false inv k (cp c47 3736) (act 32 [(1, x1), (2, x2), (15, x15), (16, x16), (17, x17), (18, x18)]) h K =
    bnd (pIndexAddr Tryz.prog 55 x15 x17) fun x20 =>
    bnd (pLoad Tryz.prog 79 x20 h) fun x21 =>
    bnd (pAlloc Tryz.prog 79 h) fun x8 =>
    bnd (kSt (pStore Tryz.prog 79 x8.1 x21 x8.2)) fun u =>
    K .normal (act 32 [(1, x1), (2, x2), (7, x17), (8, x8.1), (15, x15), (16, x16), (17, x17)]) u.2 := kq_reg
theorem r47_6  : kCode env 47 false inv k (cp c47 7474) (act 32 [(1, x1), (2, x2), (7, x7), (8, x8), (15, x15), (16, x16), (17, x17)]) h K =
    bnd (pIndexAddr Tryz.prog 55 x1 x7) fun x24 =>
    bnd (pLoad Tryz.prog 79 x24 h) fun x25 =>
    bnd (pAlloc Tryz.prog 79 h) fun x9 =>
    bnd (kSt (pStore Tryz.prog 79 x9.1 x25 x9.2)) fun u =>
    K .normal (act 32 [(1, x1), (2, x2), (8, x8), (9, x9.1), (15, x15), (16, x16), (17, x17)]) u.2 := kq_reg
theorem r47_7  : kCode env 47 false inv k (cp c47 14950) (act 32 [(1, x1), (2, x2), (8, x8), (9, x9), (15, x15), (16, x16), (17, x17)]) h K =
    bnd (pLoad Tryz.prog 79 x8 h) fun x27 =>
    bnd (pLoad Tryz.prog 79 x9 h) fun x28 =>
    bnd (callV inv x2 #[x27, x28] h) fun x29 =>
    bnd (pUn Tryz.prog .not x29.1) fun x30 =>
    K .normal (act 32 [(1, x1), (2, x2), (15, x15), (16, x16), (17, x17), (30, x30)]) x29.2 := kq_reg
theorem b47_rrrllrrllrlrr  : kCode env 47 false inv k (cp c47 14951) (act 32 [(1, x1), (2, x2), (15, x15), (16, x16), (17, x17), (30, x30)]) h K = brV x30 (kCode env 47 false inv k (cp c47 29902) (act 32 [(1, x1), (2, x2), (15, x15), (16, x16), (17, x17), (30, x30)]) h K) (kCode env 47 false inv k (cp c47 29903) (act 32 [(1, x1), (2, x2), (15, x15), (16, x16), (17, x17), (30, x30)]) h K) := kq_cond
theorem r47_8  : kCode env 47 false inv k (cp c47 59804) (act 32 [(1, x1), (2, x2), (15, x15), (16, x16), (17, x17), (30, x30)]) h K =
    K .normal (act 32 [(6, (.bool false))]) h := kq_reg
theorem r47_9  : kCode env 47 false inv k (cp c47 935) (act 32 [(1, x1), (2, x2), (15, x15), (16, x16), (17, x17), (30, x30)]) h K =
    bnd (pBin Tryz.prog .add 3 (.tmp 17) (.const (.int .i64 1)) x17 (.int .i64 1)) fun x31 =>
    K .normal (act 32 [(1, x1), (2, x2), (15, x15), (16, x16), (17, x31)]) h := kq_reg
noncomputable def F47_lrlrr {β : Type} (inv : Inv) (k : Nat) : Nat → Value → Value → Value → Value → Value → AH → (Value → Value → Value → Value → Value → Value → AH → Option β) → (Value → AH → Option β) → Option β
  | 0, _, _, _, _, _, _, _, _ => none
  | j + 1, x1, x2, x15, x16, x17, h, ke0, kr =>
    bnd (pBin Tryz.prog .lss 3 (.tmp 17) (.tmp 16) x17 x16) fun x18 =>
    brV x18
    (bnd (pIndexAddr Tryz.prog 55 x15 x17) fun x20 =>
    bnd (pLoad Tryz.prog 79 x20 h) fun x21 =>
    bnd (pAlloc Tryz.prog 79 h) fun x8 =>
    bnd (kSt (pStore Tryz.prog 79 x8.1 x21 x8.2)) fun u =>
    bnd (pIndexAddr Tryz.prog 55 x1 x17) fun x24 =>
    bnd (pLoad Tryz.prog 79 x24 u.2) fun x25 =>
    bnd (pAlloc Tryz.prog 79 u.2) fun x9 =>
    bnd (kSt (pStore Tryz.prog 79 x9.1 x25 x9.2)) fun u_1 =>
    bnd (pLoad Tryz.prog 79 x8.1 u_1.2) fun x27 =>
    bnd (pLoad Tryz.prog 79 x9.1 u_1.2) fun x28 =>
    bnd (callV inv x2 #[x27, x28] u_1.2) fun x29 =>
    bnd (pUn Tryz.prog .not x29.1) fun x30 =>
    brV x30
    (kr (.bool false) x29.2)
    (bnd (pBin Tryz.prog .add 3 (.tmp 17) (.const (.int .i64 1)) x17 (.int .i64 1)) fun x31 =>
    F47_lrlrr inv k j x1 x2 x15 x16 x31 x29.2 ke0 kr))
    (ke0 x1 x2 x15 x16 x17 x18 h)
theorem F47_lrlrr_j (j : Nat) : kLoop (kCode env 47 false inv k (cp c47 116)) j (act 32 [(1, x1), (2, x2), (15, x15), (16, x16), (17, x17)]) h K = F47_lrlrr inv k j x1 x2 x15 x16 x17 h (fun y1 y2 y15 y16 y17 y18 h => K (.exit 0) (act 32 [(1, y1), (2, y2), (15, y15), (16, y16), (17, y17), (18, y18)]) h) (fun y6 h => K .ret (act 32 [(6, y6)]) h) := by
      induction j generalizing x1 x2 x15 x16 x17 h with
      | zero => rfl
      | succ j ih =>
        unfold F47_lrlrr
        simp only [kLoop, kq_seq c47 116, r47_4, kq_seq c47 233, b47_lrllrlrr, kq_skip c47 932, kq_seq c47 467, kq_block c47 934 1, kq_seq c47 1868, r47_5, kq_seq c47 3737, r47_6, kq_seq c47 7475, r47_7, b47_rrrllrrllrlrr, kq_seq c47 29902, r47_8, kq_ret c47 59805, kq_skip c47 29903, r47_9, kq_exit c47 933 0, ih, reduceIte, reduceCtorEq, XE.exit.injEq, Nat.reduceEqDiff, Nat.reduceMul, Nat.reduceAdd] <;> kernel_rfl
theorem F47_lrlrr_eq  : kCode env 47 false inv k (cp c47 58) (act 32 [(1, x1), (2, x2), (15, x15), (16, x16), (17, x17)]) h K = F47_lrlrr inv k k x1 x2 x15 x16 x17 h (fun y1 y2 y15 y16 y17 y18 h => K (.exit 0) (act 32 [(1, y1), (2, y2), (15, y15), (16, y16), (17, y17), (18, y18)]) h) (fun y6 h => K .ret (act 32 [(6, y6)]) h) := kq_loop (F47_lrlrr_j k)
theorem r47_10  : kCode env 47 false inv k (cp c47 30) (act 32 [(1, x1), (2, x2), (15, x15), (16, x16), (17, x17), (18, x18)]) h K =
    K .normal (act 32 [(6, (.bool true))]) h := kq_reg
/-- slices.EqualFunc[[]shadowbook/api.Table,[]shadowbook/api.Table,shadowbook/api.Table,shadowbook/api.Table] -/
noncomputable def F47 (inv : Inv) (k : Nat) (x0 x1 x2 : Value) (h : AH) : Option (Value × AH) :=
    bnd (pLen Tryz.prog #[55] x0 h) fun x11 =>
    bnd (pLen Tryz.prog #[55] x1 h) fun x13 =>
    bnd (pBin Tryz.prog .neq 3 (.tmp 11) (.tmp 13) x11 x13) fun x14 =>
    brV x14
    (some ((.bool false), h))
    (bnd (pLen Tryz.prog #[55] x0 h) fun x16 =>
    F47_lrlrr inv k k x1 x2 x0 x16 (.int .i64 0) h
    (fun y1 y2 y15 y16 y17 y18 h =>
    some ((.bool true), h))
    (fun y6 h_2 =>
    some (y6, h_2)))
theorem F47_eq : eFun env k inv 47 #[x0, x1, x2] h = F47 inv k x0 x1 x2 h := by
      refine (kq_fun (a := act 32 [(0, x0), (1, x1), (2, x2)]) (c := cp c47 1)).trans ?_
      unfold F47
      simp only [kq_seq c47 1, r47_0, kq_seq c47 3, kq_seq c47 6, r47_1, b47_rlr, kq_seq c47 26, r47_2, kq_ret c47 53, res47_0, kq_skip c47 27, kq_seq c47 7, kq_seq c47 14, r47_3, kq_block c47 29 0, F47_lrlrr_eq, kq_seq c47 15, r47_10, kq_ret c47 31, reduceIte, reduceCtorEq, XE.exit.injEq, Nat.reduceEqDiff, Nat.reduceMul, Nat.reduceAdd] <;> kernel_rfl
theorem F47_call : eInv env (k + 1) (.func 47) #[] #[x0, x1, x2] h = F47 (eInv env k) k x0 x1 x2 h := kq_inv F47_eq
noncomputable def c48 : Code := codeOf Tryz.prog 48
theorem r48_0  : kCode env 48 false inv k (cp c48 2) (act 24 [(0, x0), (1, x1)]) h K =
    bnd (pBox Tryz.prog 79 x0 h) fun x2 =>
    bnd (pBox Tryz.prog 79 x1 x2.2) fun x3 =>
    K .normal (act 24 [(2, x2.1), (3, x3.1)]) x3.2 := kq_reg
noncomputable abbrev G48_1 {β : Type} (inv : Inv) (x2 x3 : Value) (h : AH) (K : Value → AH → Option β) : Option β :=
    bnd (pFieldAddr Tryz.prog 79 x2 0) fun x5 =>
    bnd (pLoad Tryz.prog 9 x5 h) fun x6 =>
    bnd (pFieldAddr Tryz.prog 79 x3 0) fun x7 =>
    bnd (pLoad Tryz.prog 9 x7 h) fun x8 =>
    bnd (pBin Tryz.prog .eql 9 (.tmp 6) (.tmp 8) x6 x8) fun x9 =>
    bnd (gd (some x9) true h (lt (pFieldAddr Tryz.prog 79 x2 1) h)) fun x11 =>
    bnd (gd (some x9) true x11.2 (lt (pLoad Tryz.prog 36 x11.1 x11.2) x11.2)) fun x12 =>
    bnd (gd (some x9) true x12.2 (lt (pFieldAddr Tryz.prog 79 x3 1) x12.2)) fun x13 =>
    bnd (gd (some x9) true x13.2 (lt (pLoad Tryz.prog 36 x13.1 x13.2) x13.2)) fun x14 =>
    bnd (gd (some x9) true x14.2 (inv (.func 85) #[] #[x12.1, x14.1] x14.2)) fun x15 =>
    bnd (pickV x9 x15.1 (.bool false)) fun x16 =>
    bnd (gd (some x16) true x15.2 (lt (pFieldAddr Tryz.prog 79 x2 2) x15.2)) fun x18 =>
    bnd (gd (some x16) true x18.2 (lt (pLoad Tryz.prog 31 x18.1 x18.2) x18.2)) fun x19 =>
    bnd (gd (some x16) true x19.2 (lt (pFieldAddr Tryz.prog 79 x3 2) x19.2)) fun x20 =>
    bnd (gd (some x16) true x20.2 (lt (pLoad Tryz.prog 31 x20.1 x20.2) x20.2)) fun x21 =>
    bnd (gd (some x16) true x21.2 (inv (.func 86) #[] #[x19.1, x21.1] x21.2)) fun x22 =>
    bnd (pickV x16 x22.1 (.bool false)) fun x23 =>
    K (x23) x22.2
theorem r48_1  : kCode env 48 false inv k (cp c48 6) (act 24 [(2, x2), (3, x3)]) h K =
    G48_1 inv x2 x3 h fun y4 h => K .normal (act 24 [(4, y4)]) h := kq_reg
theorem res48_0 : resOfFn env.P 48 .ret (act 24 [(4, x4)]) h = some (x4, h) := kq_res
/-- shadowbook/model.sameTable -/
noncomputable def F48 (inv : Inv) (k : Nat) (x0 x1 : Value) (h : AH) : Option (Value × AH) :=
    bnd (pBox Tryz.prog 79 x0 h) fun x2 =>
    bnd (pBox Tryz.prog 79 x1 x2.2) fun x3 =>
    G48_1 inv x2.1 x3.1 x3.2 fun y4 h =>
    some (y4, h)
theorem F48_eq : eFun env k inv 48 #[x0, x1] h = F48 inv k x0 x1 h := by
      refine (kq_fun (a := act 24 [(0, x0), (1, x1)]) (c := cp c48 1)).trans ?_
      unfold F48
      simp only [kq_seq c48 1, r48_0, kq_seq c48 3, r48_1, kq_ret c48 7, res48_0, reduceIte, reduceCtorEq, XE.exit.injEq, Nat.reduceEqDiff, Nat.reduceMul, Nat.reduceAdd] <;> kernel_rfl
theorem F48_call : eInv env (k + 1) (.func 48) #[] #[x0, x1] h = F48 (eInv env k) k x0 x1 h := kq_inv F48_eq
noncomputable def c49 : Code := codeOf Tryz.prog 49
theorem r49_0  : kCode env 49 false inv k (cp c49 2) (act 32 [(0, x0), (1, x1), (2, x2)]) h K =
    K .normal (act 32 [(0, x0), (1, x1), (2, x2)]) h := kq_reg
theorem r49_1  : kCode env 49 false inv k (cp c49 12) (act 32 [(0, x0), (1, x1), (2, x2)]) h K =
    bnd (pLen Tryz.prog #[56] x0 h) fun x11 =>
    bnd (pLen Tryz.prog #[56] x1 h) fun x13 =>
    bnd (pBin Tryz.prog .neq 3 (.tmp 11) (.tmp 13) x11 x13) fun x14 =>
    K .normal (act 32 [(0, x0), (1, x1), (2, x2), (14, x14)]) h := kq_reg
theorem b49_rlr  : kCode env 49 false inv k (cp c49 13) (act 32 [(0, x0), (1, x1), (2, x2), (14, x14)]) h K = brV x14 (kCode env 49 false inv k (cp c49 26) (act 32 [(0, x0), (1, x1), (2, x2), (14, x14)]) h K) (kCode env 49 false inv k (cp c49 27) (act 32 [(0, x0), (1, x1), (2, x2), (14, x14)]) h K) := kq_cond
theorem r49_2  : kCode env 49 false inv k (cp c49 52) (act 32 [(0, x0), (1, x1), (2, x2), (14, x14)]) h K =
    K .normal (act 32 [(6, (.bool false))]) h := kq_reg
theorem res49_0 : resOfFn env.P 49 .ret (act 32 [(6, x6)]) h = some (x6, h) := kq_res
theorem r49_3  : kCode env 49 false inv k (cp c49 28) (act 32 [(0, x0), (1, x1), (2, x2), (14, x14)]) h K =
    bnd (pLen Tryz.prog #[56] x0 h) fun x16 =>
    K .normal (act 32 [(1, x1), (2, x2), (15, x0), (16, x16), (17, (.int .i64 0))]) h := kq_reg
theorem r49_4  : kCode env 49 false inv k (cp c49 232) (act 32 [(1, x1), (2, x2), (15, x15), (16, x16), (17, x17)]) h K =
    bnd (pBin Tryz.prog .lss 3 (.tmp 17) (.tmp 16) x17 x16) fun x18 =>
    K .normal (act 32 [(1, x1), (2, x2), (15, x15), (16, x16), (17, x17), (18, x18)]) h := kq_reg
theorem b49_lrllrlrr  : kCode env 49 false inv k (cp c49 466) (act 32 [(1, x1), (2, x2), (15, x15), (16, x16), (17, x17), (18, x18)]) h K = brV x18 (kCode env 49 false inv k (cp c49 932) (act 32 [(1, x1), (2, x2), (15, x15), (16, x16), (17, x17), (18, x18)]) h K) (kCode env 49 false inv k (cp c49 933) (act 32 [(1, x1), (2, x2), (15, x15), (16, x16), (17, x17), (18, x18)]) h K) := kq_cond
theorem r49_5  : kCode env 49 false inv k (cp c49 3736) (act 32 [(1, x1), (2, x2), (15, x15), (16, x16), (17, x17), (18, x18)]) h K =
    bnd (pIndexAddr Tryz.prog 56 x15 x17) fun x20 =>
    bnd (pLoad Tryz.prog 81 x20 h) fun x21 =>
    bnd (pAlloc Tryz.prog 81 h) fun x8 =>
    bnd (kSt (pStore Tryz.prog 81 x8.1 x21 x8.2)) fun u =>
    K .normal (act 32 [(1, x1), (2, x2), (7, x17), (8, x8.1), (15, x15), (16, x16), (17, x17)]) u.2 := kq_reg
theorem r49_6  : kCode env 49 false inv k (cp c49 7474) (act 32 [(1, x1), (2, x2), (7, x7), (8, x8), (15, x15), (16, x16), (17, x17)]) h K =
    bnd (pIndexAddr Tryz.prog 56 x1 x7) fun x24 =>
    bnd (pLoad Tryz.prog 81 x24 h) fun x25 =>
    bnd (pAlloc Tryz.prog 81 h) fun x9 =>
    bnd (kSt (pStore Tryz.prog 81 x9.1 x25 x9.2)) fun u =>
    K .normal (act 32 [(1, x1), (2, x2), (8, x8), (9, x9.1), (15, x15), (16, x16), (17, x17)]) u.2 := kq_reg
theorem r49_7  : kCode env 49 false inv k (cp c49 14950) (act 32 [(1, x1), (2, x2), (8, x8), (9, x9), (15, x15), (16, x16), (17, x17)]) h K =
    bnd (pLoad Tryz.prog 81 x8 h) fun x27 =>
    bnd (pLoad Tryz.prog 81 x9 h) fun x28 =>
    bnd (callV inv x2 #[x27, x28] h) fun x29 =>
    bnd (pUn Tryz.prog .not x29.1) fun x30 =>
    K .normal (act 32 [(1, x1), (2, x2), (15, x15), (16, x16), (17, x17), (30, x30)]) x29.2 := kq_reg
theorem b49_rrrllrrllrlrr  : kCode env 49 false inv k (cp c49 14951) (act 32 [(1, x1), (2, x2), (15, x15), (16, x16), (17, x17), (30, x30)]) h K = brV x30 (kCode env 49 false inv k (cp c49 29902) (act 32 [(1, x1), (2, x2), (15, x15), (16, x16), (17, x17), (30, x30)]) h K) (kCode env 49 false inv k (cp c49 29903) (act 32 [(1, x1), (2, x2), (15, x15), (16, x16), (17, x17), (30, x30)]) h K) := kq_cond
theorem r49_8  : kCode env 49 false inv k (cp c49 59804) (act 32 [(1, x1), (2, x2), (15, x15), (16, x16), (17, x17), (30, x30)]) h K =
    K .normal (act 32 [(6, (.bool false))]) h := kq_reg
theorem r49_9  : kCode env 49 false inv k (cp c49 935) (act 32 [(1, x1), (2, x2), (15, x15), (16, x16), (17, x17), (30, x30)]) h K =
    bnd (pBin Tryz.prog .add 3 (.tmp 17) (.const (.int .i64 1)) x17 (.int .i64 1)) fun x31 =>
    K .normal (act 32 [(1, x1), (2, x2), (15, x15), (16, x16), (17, x31)]) h := kq_reg
noncomputable def F49_lrlrr {β : Type} (inv : Inv) (k : Nat) : Nat → Value → Value → Value → Value → Value → AH → (Value → Value → Value → Value → Value → Value → AH → Option β) → (Value → AH → Option β) → Option β
  | 0, _, _, _, _, _, _, _, _ => none
  | j + 1, x1, x2, x15, x16, x17, h, ke0, kr =>
    bnd (pBin Tryz.prog .lss 3 (.tmp 17) (.tmp 16) x17 x16) fun x18 =>
    brV x18
    (bnd (pIndexAddr Tryz.prog 56 x15 x17) fun x20 =>
    bnd (pLoad Tryz.prog 81 x20 h) fun x21 =>
    bnd (pAlloc Tryz.prog 81 h) fun x8 =>
    bnd (kSt (pStore Tryz.prog 81 x8.1 x21 x8.2)) fun u =>
    bnd (pIndexAddr Tryz.prog 56 x1 x17) fun x24 =>
    bnd (pLoad Tryz.prog 81 x24 u.2) fun x25 =>
    bnd (pAlloc Tryz.prog 81 u.2) fun x9 =>
    bnd (kSt (pStore Tryz.prog 81 x9.1 x25 x9.2)) fun u_1 =>
    bnd (pLoad Tryz.prog 81 x8.1 u_1.2) fun x27 =>
    bnd (pLoad Tryz.prog 81 x9.1 u_1.2) fun x28 =>
    bnd (callV inv x2 #[x27, x28] u_1.2) fun x29 =>
    bnd (pUn Tryz.prog .not x29.1) fun x30 =>
    brV x30
    (kr (.bool false) x29.2)
    (bnd (pBin Tryz.prog .add 3 (.tmp 17) (.const (.int .i64 1)) x17 (.int .i64 1)) fun x31 =>
    F49_lrlrr inv k j x1 x2 x15 x16 x31 x29.2 ke0 kr))
    (ke0 x1 x2 x15 x16 x17 x18 h)
theorem F49_lrlrr_j (j : Nat) : kLoop (kCode env 49 false inv k (cp c49 116)) j (act 32 [(1, x1), (2, x2), (15, x15), (16, x16), (17, x17)]) h K = F49_lrlrr inv k j x1 x2 x15 x16 x17 h (fun y1 y2 y15 y16 y17 y18 h => K (.exit 0) (act 32 [(1, y1), (2, y2), (15, y15), (16, y16), (17, y17), (18, y18)]) h) (fun y6 h => K .ret (act 32 [(6, y6)]) h) := by
      induction j generalizing x1 x2 x15 x16 x17 h with
      | zero => rfl
      | succ j ih =>
        unfold F49_lrlrr
        simp only [kLoop, kq_seq c49 116, r49_4, kq_seq c49 233, b49_lrllrlrr, kq_skip c49 932, kq_seq c49 467, kq_block c49 934 1, kq_seq c49 1868, r49_5, kq_seq c49 3737, r49_6, kq_seq c49 7475, r49_7, b49_rrrllrrllrlrr, kq_seq c49 29902, r49_8, kq_ret c49 59805, kq_skip c49 29903, r49_9, kq_exit c49 933 0, ih, reduceIte, reduceCtorEq, XE.exit.injEq, Nat.reduceEqDiff, Nat.reduceMul, Nat.reduceAdd] <;> kernel_rfl
theorem F49_lrlrr_eq  : kCode env 49 false inv k (cp c49 58) (act 32 [(1, x1), (2, x2), (15, x15), (16, x16), (17, x17)]) h K = F49_lrlrr inv k k x1 x2 x15 x16 x17 h (fun y1 y2 y15 y16 y17 y18 h => K (.exit 0) (act 32 [(1, y1), (2, y2), (15, y15), (16, y16), (17, y17), (18, y18)]) h) (fun y6 h => K .ret (act 32 [(6, y6)]) h) := kq_loop (F49_lrlrr_j k)
theorem r49_10  : kCode env 49 false inv k (cp c49 30) (act 32 [(1, x1), (2, x2), (15, x15), (16, x16), (17, x17), (18, x18)]) h K =
    K .normal (act 32 [(6, (.bool true))]) h := kq_reg
/-- slices.EqualFunc[[]shadowbook/api.Frozen,[]shadowbook/api.Frozen,shadowbook/api.Frozen,shadowbook/api.Frozen] -/
noncomputable def F49 (inv : Inv) (k : Nat) (x0 x1 x2 : Value) (h : AH) : Option (Value × AH) :=
    bnd (pLen Tryz.prog #[56] x0 h) fun x11 =>
    bnd (pLen Tryz.prog #[56] x1 h) fun x13 =>
    bnd (pBin Tryz.prog .neq 3 (.tmp 11) (.tmp 13) x11 x13) fun x14 =>
    brV x14
    (some ((.bool false), h))
    (bnd (pLen Tryz.prog #[56] x0 h) fun x16 =>
    F49_lrlrr inv k k x1 x2 x0 x16 (.int .i64 0) h
    (fun y1 y2 y15 y16 y17 y18 h =>
    some ((.bool true), h))
    (fun y6 h_2 =>
    some (y6, h_2)))
theorem F49_eq : eFun env k inv 49 #[x0, x1, x2] h = F49 inv k x0 x1 x2 h := by
      refine (kq_fun (a := act 32 [(0, x0), (1, x1), (2, x2)]) (c := cp c49 1)).trans ?_
      unfold F49
      simp only [kq_seq c49 1, r49_0, kq_seq c49 3, kq_seq c49 6, r49_1, b49_rlr, kq_seq c49 26, r49_2, kq_ret c49 53, res49_0, kq_skip c49 27, kq_seq c49 7, kq_seq c49 14, r49_3, kq_block c49 29 0, F49_lrlrr_eq, kq_seq c49 15, r49_10, kq_ret c49 31, reduceIte, reduceCtorEq, XE.exit.injEq, Nat.reduceEqDiff, Nat.reduceMul, Nat.reduceAdd] <;> kernel_rfl
theorem F49_call : eInv env (k + 1) (.func 49) #[] #[x0, x1, x2] h = F49 (eInv env k) k x0 x1 x2 h := kq_inv F49_eq
noncomputable def c50 : Code := codeOf Tryz.prog 50
theorem r50_0  : kCode env 50 false inv k (cp c50 2) (act 17 [(0, x0), (1, x1)]) h K =
    bnd (pBox Tryz.prog 81 x0 h) fun x2 =>
    bnd (pBox Tryz.prog 81 x1 x2.2) fun x3 =>
    K .normal (act 17 [(2, x2.1), (3, x3.1)]) x3.2 := kq_reg
noncomputable abbrev G50_1 {β : Type} (inv : Inv) (x2 x3 : Value) (h : AH) (K : Value → AH → Option β) : Option β :=
    bnd (pFieldAddr Tryz.prog 81 x2 0) fun x5 =>
    bnd (pLoad Tryz.prog 9 x5 h) fun x6 =>
    bnd (pFieldAddr Tryz.prog 81 x3 0) fun x7 =>
    bnd (pLoad Tryz.prog 9 x7 h) fun x8 =>
    bnd (pBin Tryz.prog .eql 9 (.tmp 6) (.tmp 8) x6 x8) fun x9 =>
    bnd (gd (some x9) true h (lt (pFieldAddr Tryz.prog 81 x2 1) h)) fun x11 =>
    bnd (gd (some x9) true x11.2 (lt (pLoad Tryz.prog 55 x11.1 x11.2) x11.2)) fun x12 =>
    bnd (gd (some x9) true x12.2 (lt (pFieldAddr Tryz.prog 81 x3 1) x12.2)) fun x13 =>
    bnd (gd (some x9) true x13.2 (lt (pLoad Tryz.prog 55 x13.1 x13.2) x13.2)) fun x14 =>
    bnd (gd (some x9) true x14.2 (inv (.func 47) #[] #[x12.1, x14.1, (.func (.func 48) #[] #[])] x14.2)) fun x15 =>
    bnd (pickV x9 x15.1 (.bool false)) fun x16 =>
    K (x16) x15.2
theorem r50_1  : kCode env 50 false inv k (cp c50 6) (act 17 [(2, x2), (3, x3)]) h K =
    G50_1 inv x2 x3 h fun y4 h => K .normal (act 17 [(4, y4)]) h := kq_reg
theorem res50_0 : resOfFn env.P 50 .ret (act 17 [(4, x4)]) h = some (x4, h) := kq_res
/-- shadowbook/model.Same$1 -/
noncomputable def F50 (inv : Inv) (k : Nat) (x0 x1 : Value) (h : AH) : Option (Value × AH) :=
    bnd (pBox Tryz.prog 81 x0 h) fun x2 =>
    bnd (pBox Tryz.prog 81 x1 x2.2) fun x3 =>
    G50_1 inv x2.1 x3.1 x3.2 fun y4 h =>
    some (y4, h)
theorem F50_eq : eFun env k inv 50 #[x0, x1] h = F50 inv k x0 x1 h := by
      refine (kq_fun (a := act 17 [(0, x0), (1, x1)]) (c := cp c50 1)).trans ?_
      unfold F50
      simp only [kq_seq c50 1, r50_0, kq_seq c50 3, r50_1, kq_ret c50 7, res50_0, reduceIte, reduceCtorEq, XE.exit.injEq, Nat.reduceEqDiff, Nat.reduceMul, Nat.reduceAdd] <;> kernel_rfl
theorem F50_call : eInv env (k + 1) (.func 50) #[] #[x0, x1] h = F50 (eInv env k) k x0 x1 h := kq_inv F50_eq
noncomputable def c62 : Code := codeOf Tryz.prog 62
theorem r62_0  : kCode env 62 false inv k (cp c62 2) (act 4 []) h K =
    K .normal (act 4 []) h := kq_reg
theorem r62_1  : kCode env 62 false inv k (cp c62 6) (act 4 []) h K =
    bnd (pBuild Tryz.prog 118 #[(0, (.string { data := #[107] })), (1, (.int .i64 3))]) fun x1 =>
    bnd (pBuild Tryz.prog 118 #[(0, (.string { data := #[118] })), (1, (.int .i64 1)), (2, (.bool true))]) fun x2 =>
    bnd (pBuildSlice Tryz.prog 36 2 #[(0, x1), (1, x2)] h) fun x3 =>
    K .normal (act 4 [(0, x3.1)]) x3.2 := kq_reg
theorem res62_0 : resOfFn env.P 62 .ret (act 4 [(0, x0)]) h = some (x0, h) := kq_res
/-- shadowbook/shadowbookkit.Pair -/
noncomputable def F62 (inv : Inv) (k : Nat) (h : AH) : Option (Value × AH) :=
    bnd (pBuild Tryz.prog 118 #[(0, (.string { data := #[107] })), (1, (.int .i64 3))]) fun x1 =>
    bnd (pBuild Tryz.prog 118 #[(0, (.string { data := #[118] })), (1, (.int .i64 1)), (2, (.bool true))]) fun x2 =>
    bnd (pBuildSlice Tryz.prog 36 2 #[(0, x1), (1, x2)] h) fun x3 =>
    some (x3.1, x3.2)
theorem F62_eq : eFun env k inv 62 #[] h = F62 inv k  h := by
      refine (kq_fun (a := act 4 []) (c := cp c62 1)).trans ?_
      unfold F62
      simp only [kq_seq c62 1, r62_0, kq_seq c62 3, r62_1, kq_ret c62 7, res62_0, reduceIte, reduceCtorEq, XE.exit.injEq, Nat.reduceEqDiff, Nat.reduceMul, Nat.reduceAdd] <;> kernel_rfl
theorem F62_call : eInv env (k + 1) (.func 62) #[] #[] h = F62 (eInv env k) k  h := kq_inv F62_eq
noncomputable def c63 : Code := codeOf Tryz.prog 63
theorem r63_0  : kCode env 63 false inv k (cp c63 2) (act 6 [(0, x0)]) h K =
    K .normal (act 6 [(0, x0)]) h := kq_reg
theorem r63_1  : kCode env 63 false inv k (cp c63 6) (act 6 [(0, x0)]) h K =
    bnd (pBuild Tryz.prog 134 #[(0, (.int .i64 1)), (1, x0)]) fun x4 =>
    bnd (pBuildSlice Tryz.prog 37 1 #[(0, x4)] h) fun x5 =>
    K .normal (act 6 [(2, x5.1)]) x5.2 := kq_reg
theorem res63_0 : resOfFn env.P 63 .ret (act 6 [(2, x2)]) h = some (x2, h) := kq_res
/-- shadowbook/shadowbookkit.Put -/
noncomputable def F63 (inv : Inv) (k : Nat) (x0 : Value) (h : AH) : Option (Value × AH) :=
    bnd (pBuild Tryz.prog 134 #[(0, (.int .i64 1)), (1, x0)]) fun x4 =>
    bnd (pBuildSlice Tryz.prog 37 1 #[(0, x4)] h) fun x5 =>
    some (x5.1, x5.2)
theorem F63_eq : eFun env k inv 63 #[x0] h = F63 inv k x0 h := by
      refine (kq_fun (a := act 6 [(0, x0)]) (c := cp c63 1)).trans ?_
      unfold F63
      simp only [kq_seq c63 1, r63_0, kq_seq c63 3, r63_1, kq_ret c63 7, res63_0, reduceIte, reduceCtorEq, XE.exit.injEq, Nat.reduceEqDiff, Nat.reduceMul, Nat.reduceAdd] <;> kernel_rfl
theorem F63_call : eInv env (k + 1) (.func 63) #[] #[x0] h = F63 (eInv env k) k x0 h := kq_inv F63_eq
noncomputable def c64 : Code := codeOf Tryz.prog 64
theorem r64_0  : kCode env 64 false inv k (cp c64 2) (act 5 [(0, x0)]) h K =
    bnd (pAlloc Tryz.prog 49 h) fun x2 =>
    K .normal (act 5 [(0, x0), (2, x2.1)]) x2.2 := kq_reg
theorem r64_1  : kCode env 64 false inv k (cp c64 6) (act 5 [(0, x0), (2, x2)]) h K =
    bnd (pBuild Tryz.prog 49 #[(0, (.int .i64 3)), (2, x0)]) fun x4 =>
    bnd (kSt (pStore Tryz.prog 49 x2 x4 h)) fun u =>
    K .normal (act 5 [(2, x2)]) u.2 := kq_reg
theorem res64_0 : resOfFn env.P 64 .ret (act 5 [(2, x2)]) h = bnd (pLoad Tryz.prog 49 x2 h) fun q0 =>
    some (q0, h) := kq_res
/-- shadowbook/shadowbookkit.Str -/
noncomputable def F64 (inv : Inv) (k : Nat) (x0 : Value) (h : AH) : Option (Value × AH) :=
    bnd (pAlloc Tryz.prog 49 h) fun x2 =>
    bnd (pBuild Tryz.prog 49 #[(0, (.int .i64 3)), (2, x0)]) fun x4 =>
    bnd (kSt (pStore Tryz.prog 49 x2.1 x4 x2.2)) fun u =>
    bnd (pLoad Tryz.prog 49 x2.1 u.2) fun q0 =>
    some (q0, u.2)
theorem F64_eq : eFun env k inv 64 #[x0] h = F64 inv k x0 h := by
      refine (kq_fun (a := act 5 [(0, x0)]) (c := cp c64 1)).trans ?_
      unfold F64
      simp only [kq_seq c64 1, r64_0, kq_seq c64 3, r64_1, kq_ret c64 7, res64_0, reduceIte, reduceCtorEq, XE.exit.injEq, Nat.reduceEqDiff, Nat.reduceMul, Nat.reduceAdd] <;> kernel_rfl
theorem F64_call : eInv env (k + 1) (.func 64) #[] #[x0] h = F64 (eInv env k) k x0 h := kq_inv F64_eq
noncomputable def c67 : Code := codeOf Tryz.prog 67
theorem r67_0  : kCode env 67 false inv k (cp c67 2) (act 66 [(0, x0), (1, x1)]) h K =
    bnd (pBox Tryz.prog 40 x1 h) fun x3 =>
    bnd (pAlloc Tryz.prog 34 x3.2) fun x4 =>
    K .normal (act 66 [(0, x0), (3, x3.1), (4, x4.1)]) x4.2 := kq_reg
theorem r67_1  : kCode env 67 false inv k (cp c67 12) (act 66 [(0, x0), (3, x3), (4, x4)]) h K =
    bnd (pFieldAddr Tryz.prog 40 x3 1) fun x9 =>
    bnd (pLoad Tryz.prog 9 x9 h) fun x10 =>
    bnd (inv (.func 102) #[] #[x10] h) fun x11 =>
    K .normal (act 66 [(0, x0), (3, x3), (4, x4), (5, x11.1)]) x11.2 := kq_reg
theorem r67_2  : kCode env 67 false inv k (cp c67 26) (act 66 [(0, x0), (3, x3), (4, x4), (5, x5)]) h K =
    bnd (pBin Tryz.prog .neq 30 (.tmp 12) (.const (.int .i64 0)) x5 (.int .i64 0)) fun x13 =>
    K .normal (act 66 [(0, x0), (3, x3), (4, x4), (5, x5), (13, x13)]) h := kq_reg
theorem b67_rrlr  : kCode env 67 false inv k (cp c67 27) (act 66 [(0, x0), (3, x3), (4, x4), (5, x5), (13, x13)]) h K = brV x13 (kCode env 67 false inv k (cp c67 54) (act 66 [(0, x0), (3, x3), (4, x4), (5, x5), (13, x13)]) h K) (kCode env 67 false inv k (cp c67 55) (act 66 [(0, x0), (3, x3), (4, x4), (5, x5), (13, x13)]) h K) := kq_cond
theorem r67_3  : kCode env 67 false inv k (cp c67 108) (act 66 [(0, x0), (3, x3), (4, x4), (5, x5), (13, x13)]) h K =
    bnd (inv (.func 39) #[] #[x5] h) fun x15 =>
    bnd (kSt (pStore Tryz.prog 34 x4 x15.1 x15.2)) fun u =>
    K .normal (act 66 [(4, x4)]) u.2 := kq_reg
theorem res67_0 : resOfFn env.P 67 .ret (act 66 [(4, x4)]) h = bnd (pLoad Tryz.prog 34 x4 h) fun q0 =>
    some (q0, h) := kq_res
theorem r67_4  : kCode env 67 false inv k (cp c67 28) (act 66 [(0, x0), (3, x3), (4, x4), (5, x5), (13, x13)]) h K =
    bnd (pFieldAddr Tryz.prog 40 x3 3) fun x16 =>
    bnd (pLoad Tryz.prog 36 x16 h) fun x17 =>
    bnd (inv (.func 103) #[] #[x17] h) fun x18 =>
    K .normal (act 66 [(0, x0), (3, x3), (4, x4), (6, x18.1)]) x18.2 := kq_reg
theorem r67_5  : kCode env 67 false inv k (cp c67 58) (act 66 [(0, x0), (3, x3), (4, x4), (6, x6)]) h K =
    bnd (pBin Tryz.prog .neq 30 (.tmp 19) (.const (.int .i64 0)) x6 (.int .i64 0)) fun x20 =>
    K .normal (act 66 [(0, x0), (3, x3), (4, x4), (6, x6), (20, x20)]) h := kq_reg
theorem b67_rrlrr  : kCode env 67 false inv k (cp c67 59) (act 66 [(0, x0), (3, x3), (4, x4), (6, x6), (20, x20)]) h K = brV x20 (kCode env 67 false inv k (cp c67 118) (act 66 [(0, x0), (3, x3), (4, x4), (6, x6), (20, x20)]) h K) (kCode env 67 false inv k (cp c67 119) (act 66 [(0, x0), (3, x3), (4, x4), (6, x6), (20, x20)]) h K) := kq_cond
theorem r67_6  : kCode env 67 false inv k (cp c67 236) (act 66 [(0, x0), (3, x3), (4, x4), (6, x6), (20, x20)]) h K =
    bnd (inv (.func 39) #[] #[x6] h) fun x22 =>
    bnd (kSt (pStore Tryz.prog 34 x4 x22.1 x22.2)) fun u =>
    K .normal (act 66 [(4, x4)]) u.2 := kq_reg
theorem r67_7  : kCode env 67 false inv k (cp c67 30) (act 66 [(0, x0), (3, x3), (4, x4), (6, x6), (20, x20)]) h K =
    bnd (pNilCheck Tryz.prog x0) fun x25 =>
    bnd (pFieldAddr Tryz.prog 85 x25 0) fun x26 =>
    bnd (pFieldAddr Tryz.prog 58 x26 0) fun x27 =>
    bnd (pLoad Tryz.prog 55 x27 h) fun x28 =>
    bnd (pFieldAddr Tryz.prog 40 x3 1) fun x29 =>
    bnd (pLoad Tryz.prog 9 x29 h) fun x30 =>
    bnd (inv (.func 104) #[] #[x28, x30, (.func (.func 105) #[] #[])] h) fun x31 =>
    bnd (pExtract x31.1 0) fun x32 =>
    bnd (pExtract x31.1 1) fun x33 =>
    K .normal (act 66 [(0, x0), (3, x3), (4, x4), (7, x32), (8, x33)]) x31.2 := kq_draw
theorem r67_8  : kCode env 67 false inv k (cp c67 248) (act 66 [(0, x0), (3, x3), (4, x4), (7, x7), (8, x8)]) h K =
    K .normal (act 66 [(0, x0), (3, x3), (4, x4), (7, x7), (34, x8)]) h := kq_reg
theorem b67_rllrrrr  : kCode env 67 false inv k (cp c67 249) (act 66 [(0, x0), (3, x3), (4, x4), (7, x7), (34, x34)]) h K = brV x34 (kCode env 67 false inv k (cp c67 498) (act 66 [(0, x0), (3, x3), (4, x4), (7, x7), (34, x34)]) h K) (kCode env 67 false inv k (cp c67 499) (act 66 [(0, x0), (3, x3), (4, x4), (7, x7), (34, x34)]) h K) := kq_cond
theorem r67_9  : kCode env 67 false inv k (cp c67 996) (act 66 [(0, x0), (3, x3), (4, x4), (7, x7), (34, x34)]) h K =
    bnd (inv (.func 39) #[] #[(.int .i64 6)] h) fun x36 =>
    bnd (kSt (pStore Tryz.prog 34 x4 x36.1 x36.2)) fun u =>
    K .normal (act 66 [(4, x4)]) u.2 := kq_reg
theorem r67_10  : kCode env 67 false inv k (cp c67 998) (act 66 [(0, x0), (3, x3), (4, x4), (7, x7), (34, x34)]) h K =
    bnd (pNilCheck Tryz.prog x0) fun x39 =>
    bnd (pFieldAddr Tryz.prog 85 x39 0) fun x40 =>
    bnd (pFieldAddr Tryz.prog 58 x40 0) fun x41 =>
    bnd (pLoad Tryz.prog 55 x41 h) fun x42 =>
    bnd (pLen Tryz.prog #[55] x42 h) fun x43 =>
    bnd (pBin Tryz.prog .geq 3 (.tmp 43) (.const (.int .i64 16)) x43 (.int .i64 16)) fun x44 =>
    K .normal (act 66 [(0, x0), (3, x3), (4, x4), (7, x7), (37, x44)]) h := kq_reg
theorem b67_rrrllrrrr  : kCode env 67 false inv k (cp c67 999) (act 66 [(0, x0), (3, x3), (4, x4), (7, x7), (37, x37)]) h K = brV x37 (kCode env 67 false inv k (cp c67 1998) (act 66 [(0, x0), (3, x3), (4, x4), (7, x7), (37, x37)]) h K) (kCode env 67 false inv k (cp c67 1999) (act 66 [(0, x0), (3, x3), (4, x4), (7, x7), (37, x37)]) h K) := kq_cond
theorem r67_11  : kCode env 67 false inv k (cp c67 3996) (act 66 [(0, x0), (3, x3), (4, x4), (7, x7), (37, x37)]) h K =
    bnd (inv (.func 39) #[] #[(.int .i64 12)] h) fun x45 =>
    bnd (kSt (pStore Tryz.prog 34 x4 x45.1 x45.2)) fun u =>
    K .normal (act 66 [(4, x4)]) u.2 := kq_reg
noncomputable abbrev G67_12 {β : Type} (inv : Inv) (x0 x3 x4 x7 : Value) (h : AH) (K : AH → Option β) : Option β :=
    bnd (pNilCheck Tryz.prog x0) fun x48 =>
    bnd (pFieldAddr Tryz.prog 85 x48 0) fun x49 =>
    bnd (pFieldAddr Tryz.prog 58 x49 0) fun x50 =>
    bnd (pLoad Tryz.prog 55 x50 h) fun x51 =>
    bnd (pFieldAddr Tryz.prog 40 x3 1) fun x54 =>
    bnd (pLoad Tryz.prog 9 x54 h) fun x55 =>
    bnd (pFieldAddr Tryz.prog 40 x3 3) fun x56 =>
    bnd (pLoad Tryz.prog 36 x56 h) fun x57 =>
    bnd (inv (.func 107) #[] #[x57] h) fun x58 =>
    bnd (pBuild Tryz.prog 79 #[(0, x55), (1, x58.1)]) fun x59 =>
    bnd (pBuildSlice Tryz.prog 55 1 #[(0, x59)] x58.2) fun x60 =>
    bnd (inv (.func 106) #[] #[x51, x7, x7, x60.1] x60.2) fun x61 =>
    bnd (pNilCheck Tryz.prog x0) fun x62 =>
    bnd (pFieldAddr Tryz.prog 85 x62 0) fun x63 =>
    bnd (pFieldAddr Tryz.prog 58 x63 0) fun x64 =>
    bnd (kSt (pStore Tryz.prog 55 x64 x61.1 x61.2)) fun u =>
    chkK ((!true || !true || (sameO (pLoad Tryz.prog 55 x50 h) x51 && sameO (pLoad Tryz.prog 55 x50 x58.2) x51)) && ((!true || !true || (sameO (pLoad Tryz.prog 55 x50 x58.2) x51 && sameO (pLoad Tryz.prog 55 x50 x60.2) x51)) && ((!true || !true || (sameO (pLoad Tryz.prog 9 x54 h) x55 && sameO (pLoad Tryz.prog 9 x54 x58.2) x55)) && true))) <|
    K u.2
theorem r67_12  : kCode env 67 false inv k (cp c67 126) (act 66 [(0, x0), (3, x3), (4, x4), (7, x7), (37, x37)]) h K =
    G67_12 inv x0 x3 x4 x7 h fun  h => K .normal (act 66 [(4, x4)]) h := kq_draw
theorem r67_13  : kCode env 67 false inv k (cp c67 254) (act 66 [(4, x4)]) h K =
    bnd (pBuild Tryz.prog 34 #[]) fun x65 =>
    bnd (kSt (pStore Tryz.prog 34 x4 x65 h)) fun u =>
    K .normal (act 66 [(4, x4)]) u.2 := kq_reg
/-- (*shadowbook/model.Model).create -/
noncomputable def F67 (inv : Inv) (k : Nat) (x0 x1 : Value) (h : AH) : Option (Value × AH) :=
    bnd (pBox Tryz.prog 40 x1 h) fun x3 =>
    bnd (pAlloc Tryz.prog 34 x3.2) fun x4 =>
    bnd (pFieldAddr Tryz.prog 40 x3.1 1) fun x9 =>
    bnd (pLoad Tryz.prog 9 x9 x4.2) fun x10 =>
    bnd (inv (.func 102) #[] #[x10] x4.2) fun x11 =>
    bnd (pBin Tryz.prog .neq 30 (.tmp 12) (.const (.int .i64 0)) x11.1 (.int .i64 0)) fun x13 =>
    brV x13
    (bnd (inv (.func 39) #[] #[x11.1] x11.2) fun x15 =>
    bnd (kSt (pStore Tryz.prog 34 x4.1 x15.1 x15.2)) fun u =>
    bnd (pLoad Tryz.prog 34 x4.1 u.2) fun q0 =>
    some (q0, u.2))
    (bnd (pFieldAddr Tryz.prog 40 x3.1 3) fun x16 =>
    bnd (pLoad Tryz.prog 36 x16 x11.2) fun x17 =>
    bnd (inv (.func 103) #[] #[x17] x11.2) fun x18 =>
    bnd (pBin Tryz.prog .neq 30 (.tmp 19) (.const (.int .i64 0)) x18.1 (.int .i64 0)) fun x20 =>
    brV x20
    (bnd (inv (.func 39) #[] #[x18.1] x18.2) fun x22 =>
    bnd (kSt (pStore Tryz.prog 34 x4.1 x22.1 x22.2)) fun u_1 =>
    bnd (pLoad Tryz.prog 34 x4.1 u_1.2) fun q0 =>
    some (q0, u_1.2))
    (bnd (pNilCheck Tryz.prog x0) fun x25 =>
    bnd (pFieldAddr Tryz.prog 85 x25 0) fun x26 =>
    bnd (pFieldAddr Tryz.prog 58 x26 0) fun x27 =>
    bnd (pLoad Tryz.prog 55 x27 x18.2) fun x28 =>
    bnd (pFieldAddr Tryz.prog 40 x3.1 1) fun x29 =>
    bnd (pLoad Tryz.prog 9 x29 x18.2) fun x30 =>
    bnd (inv (.func 104) #[] #[x28, x30, (.func (.func 105) #[] #[])] x18.2) fun x31 =>
    bnd (pExtract x31.1 0) fun x32 =>
    bnd (pExtract x31.1 1) fun x33 =>
    brV x33
    (bnd (inv (.func 39) #[] #[(.int .i64 6)] x31.2) fun x36 =>
    bnd (kSt (pStore Tryz.prog 34 x4.1 x36.1 x36.2)) fun u_2 =>
    bnd (pLoad Tryz.prog 34 x4.1 u_2.2) fun q0 =>
    some (q0, u_2.2))
    (bnd (pNilCheck Tryz.prog x0) fun x39 =>
    bnd (pFieldAddr Tryz.prog 85 x39 0) fun x40 =>
    bnd (pFieldAddr Tryz.prog 58 x40 0) fun x41 =>
    bnd (pLoad Tryz.prog 55 x41 x31.2) fun x42 =>
    bnd (pLen Tryz.prog #[55] x42 x31.2) fun x43 =>
    bnd (pBin Tryz.prog .geq 3 (.tmp 43) (.const (.int .i64 16)) x43 (.int .i64 16)) fun x44 =>
    brV x44
    (bnd (inv (.func 39) #[] #[(.int .i64 12)] x31.2) fun x45 =>
    bnd (kSt (pStore Tryz.prog 34 x4.1 x45.1 x45.2)) fun u_3 =>
    bnd (pLoad Tryz.prog 34 x4.1 u_3.2) fun q0 =>
    some (q0, u_3.2))
    (G67_12 inv x0 x3.1 x4.1 x32 x31.2 fun  h =>
    bnd (pBuild Tryz.prog 34 #[]) fun x65 =>
    bnd (kSt (pStore Tryz.prog 34 x4.1 x65 h)) fun u_4 =>
    bnd (pLoad Tryz.prog 34 x4.1 u_4.2) fun q0 =>
    some (q0, u_4.2)))))
theorem F67_eq : eFun env k inv 67 #[x0, x1] h = F67 inv k x0 x1 h := by
      refine (kq_fun (a := act 66 [(0, x0), (1, x1)]) (c := cp c67 1)).trans ?_
      unfold F67
      simp only [kq_seq c67 1, r67_0, kq_seq c67 3, kq_seq c67 6, r67_1, kq_seq c67 13, r67_2, b67_rrlr, kq_seq c67 54, r67_3, kq_ret c67 109, res67_0, kq_skip c67 55, kq_seq c67 7, kq_seq c67 14, r67_4, kq_seq c67 29, r67_5, b67_rrlrr, kq_seq c67 118, r67_6, kq_ret c67 237, kq_skip c67 119, kq_seq c67 15, r67_7, kq_seq c67 31, kq_block c67 62 0, kq_seq c67 124, r67_8, b67_rllrrrr, kq_seq c67 498, r67_9, kq_ret c67 997, kq_seq c67 499, r67_10, b67_rrrllrrrr, kq_seq c67 1998, r67_11, kq_ret c67 3997, kq_skip c67 1999, kq_seq c67 63, r67_12, kq_seq c67 127, r67_13, kq_ret c67 255, reduceIte, reduceCtorEq, XE.exit.injEq, Nat.reduceEqDiff, Nat.reduceMul, Nat.reduceAdd] <;> kernel_rfl
theorem F67_call : eInv env (k + 1) (.func 67) #[] #[x0, x1] h = F67 (eInv env k) k x0 x1 h := kq_inv F67_eq
noncomputable def c68 : Code := codeOf Tryz.prog 68
theorem r68_0  : kCode env 68 false inv k (cp c68 2) (act 35 [(0, x0), (1, x1)]) h K =
    bnd (pBox Tryz.prog 40 x1 h) fun x3 =>
    bnd (pAlloc Tryz.prog 34 x3.2) fun x4 =>
    K .normal (act 35 [(0, x0), (3, x3.1), (4, x4.1)]) x4.2 := kq_reg
theorem r68_1  : kCode env 68 false inv k (cp c68 6) (act 35 [(0, x0), (3, x3), (4, x4)]) h K =
    bnd (pNilCheck Tryz.prog x0) fun x9 =>
    bnd (pFieldAddr Tryz.prog 85 x9 0) fun x10 =>
    bnd (pFieldAddr Tryz.prog 58 x10 0) fun x11 =>
    bnd (pLoad Tryz.prog 55 x11 h) fun x12 =>
    bnd (pFieldAddr Tryz.prog 40 x3 1) fun x13 =>
    bnd (pLoad Tryz.prog 9 x13 h) fun x14 =>
    bnd (inv (.func 104) #[] #[x12, x14, (.func (.func 105) #[] #[])] h) fun x15 =>
    bnd (pExtract x15.1 0) fun x16 =>
    bnd (pExtract x15.1 1) fun x17 =>
    K .normal (act 35 [(0, x0), (4, x4), (5, x16), (6, x17)]) x15.2 := kq_draw
theorem r68_2  : kCode env 68 false inv k (cp c68 28) (act 35 [(0, x0), (4, x4), (5, x5), (6, x6)]) h K =
    bnd (pUn Tryz.prog .not x6) fun x19 =>
    K .normal (act 35 [(0, x0), (4, x4), (5, x5), (19, x19)]) h := kq_reg
theorem b68_rlrr  : kCode env 68 false inv k (cp c68 29) (act 35 [(0, x0), (4, x4), (5, x5), (19, x19)]) h K = brV x19 (kCode env 68 false inv k (cp c68 58) (act 35 [(0, x0), (4, x4), (5, x5), (19, x19)]) h K) (kCode env 68 false inv k (cp c68 59) (act 35 [(0, x0), (4, x4), (5, x5), (19, x19)]) h K) := kq_cond
theorem r68_3  : kCode env 68 false inv k (cp c68 116) (act 35 [(0, x0), (4, x4), (5, x5), (19, x19)]) h K =
    bnd (inv (.func 39) #[] #[(.int .i64 210)] h) fun x20 =>
    bnd (kSt (pStore Tryz.prog 34 x4 x20.1 x20.2)) fun u =>
    K .normal (act 35 [(4, x4)]) u.2 := kq_reg
theorem res68_0 : resOfFn env.P 68 .ret (act 35 [(4, x4)]) h = bnd (pLoad Tryz.prog 34 x4 h) fun q0 =>
    some (q0, h) := kq_res
noncomputable abbrev G68_4 {β : Type} (inv : Inv) (x0 x4 x5 : Value) (h : AH) (K : AH → Option β) : Option β :=
    bnd (pNilCheck Tryz.prog x0) fun x23 =>
    bnd (pFieldAddr Tryz.prog 85 x23 0) fun x24 =>
    bnd (pFieldAddr Tryz.prog 58 x24 0) fun x25 =>
    bnd (pLoad Tryz.prog 55 x25 h) fun x26 =>
    bnd (pBin Tryz.prog .add 3 (.tmp 28) (.const (.int .i64 1)) x5 (.int .i64 1)) fun x29 =>
    bnd (inv (.func 106) #[] #[x26, x5, x29, (.slice none 0 0)] h) fun x30 =>
    bnd (pNilCheck Tryz.prog x0) fun x31 =>
    bnd (pFieldAddr Tryz.prog 85 x31 0) fun x32 =>
    bnd (pFieldAddr Tryz.prog 58 x32 0) fun x33 =>
    bnd (kSt (pStore Tryz.prog 55 x33 x30.1 x30.2)) fun u =>
    K u.2
theorem r68_4  : kCode env 68 false inv k (cp c68 30) (act 35 [(0, x0), (4, x4), (5, x5), (19, x19)]) h K =
    G68_4 inv x0 x4 x5 h fun  h => K .normal (act 35 [(4, x4)]) h := kq_reg
theorem r68_5  : kCode env 68 false inv k (cp c68 62) (act 35 [(4, x4)]) h K =
    bnd (pBuild Tryz.prog 34 #[]) fun x34 =>
    bnd (kSt (pStore Tryz.prog 34 x4 x34 h)) fun u =>
    K .normal (act 35 [(4, x4)]) u.2 := kq_reg
/-- (*shadowbook/model.Model).drop -/
noncomputable def F68 (inv : Inv) (k : Nat) (x0 x1 : Value) (h : AH) : Option (Value × AH) :=
    bnd (pBox Tryz.prog 40 x1 h) fun x3 =>
    bnd (pAlloc Tryz.prog 34 x3.2) fun x4 =>
    bnd (pNilCheck Tryz.prog x0) fun x9 =>
    bnd (pFieldAddr Tryz.prog 85 x9 0) fun x10 =>
    bnd (pFieldAddr Tryz.prog 58 x10 0) fun x11 =>
    bnd (pLoad Tryz.prog 55 x11 x4.2) fun x12 =>
    bnd (pFieldAddr Tryz.prog 40 x3.1 1) fun x13 =>
    bnd (pLoad Tryz.prog 9 x13 x4.2) fun x14 =>
    bnd (inv (.func 104) #[] #[x12, x14, (.func (.func 105) #[] #[])] x4.2) fun x15 =>
    bnd (pExtract x15.1 0) fun x16 =>
    bnd (pExtract x15.1 1) fun x17 =>
    bnd (pUn Tryz.prog .not x17) fun x19 =>
    brV x19
    (bnd (inv (.func 39) #[] #[(.int .i64 210)] x15.2) fun x20 =>
    bnd (kSt (pStore Tryz.prog 34 x4.1 x20.1 x20.2)) fun u =>
    bnd (pLoad Tryz.prog 34 x4.1 u.2) fun q0 =>
    some (q0, u.2))
    (G68_4 inv x0 x4.1 x16 x15.2 fun  h =>
    bnd (pBuild Tryz.prog 34 #[]) fun x34 =>
    bnd (kSt (pStore Tryz.prog 34 x4.1 x34 h)) fun u_1 =>
    bnd (pLoad Tryz.prog 34 x4.1 u_1.2) fun q0 =>
    some (q0, u_1.2))
theorem F68_eq : eFun env k inv 68 #[x0, x1] h = F68 inv k x0 x1 h := by
      refine (kq_fun (a := act 35 [(0, x0), (1, x1)]) (c := cp c68 1)).trans ?_
      unfold F68
      simp only [kq_seq c68 1, r68_0, kq_seq c68 3, r68_1, kq_seq c68 7, kq_seq c68 14, r68_2, b68_rlrr, kq_seq c68 58, r68_3, kq_ret c68 117, res68_0, kq_skip c68 59, kq_seq c68 15, r68_4, kq_seq c68 31, r68_5, kq_ret c68 63, reduceIte, reduceCtorEq, XE.exit.injEq, Nat.reduceEqDiff, Nat.reduceMul, Nat.reduceAdd] <;> kernel_rfl
theorem F68_call : eInv env (k + 1) (.func 68) #[] #[x0, x1] h = F68 (eInv env k) k x0 x1 h := kq_inv F68_eq
noncomputable def c69 : Code := codeOf Tryz.prog 69
theorem r69_0  : kCode env 69 false inv k (cp c69 2) (act 67 [(0, x0), (1, x1)]) h K =
    bnd (pBox Tryz.prog 40 x1 h) fun x3 =>
    bnd (pAlloc Tryz.prog 34 x3.2) fun x4 =>
    K .normal (act 67 [(0, x0), (3, x3.1), (4, x4.1)]) x4.2 := kq_reg
theorem r69_1  : kCode env 69 false inv k (cp c69 6) (act 67 [(0, x0), (3, x3), (4, x4)]) h K =
    bnd (pNilCheck Tryz.prog x0) fun x13 =>
    bnd (pFieldAddr Tryz.prog 85 x13 0) fun x14 =>
    bnd (pFieldAddr Tryz.prog 58 x14 0) fun x15 =>
    bnd (pLoad Tryz.prog 55 x15 h) fun x16 =>
    bnd (pFieldAddr Tryz.prog 40 x3 1) fun x17 =>
    bnd (pLoad Tryz.prog 9 x17 h) fun x18 =>
    bnd (inv (.func 104) #[] #[x16, x18, (.func (.func 105) #[] #[])] h) fun x19 =>
    bnd (pExtract x19.1 0) fun x20 =>
    bnd (pExtract x19.1 1) fun x21 =>
    K .normal (act 67 [(0, x0), (3, x3), (4, x4), (5, x20), (6, x21)]) x19.2 := kq_draw
theorem r69_2  : kCode env 69 false inv k (cp c69 28) (act 67 [(0, x0), (3, x3), (4, x4), (5, x5), (6, x6)]) h K =
    bnd (pUn Tryz.prog .not x6) fun x23 =>
    K .normal (act 67 [(0, x0), (3, x3), (4, x4), (5, x5), (23, x23)]) h := kq_reg
theorem b69_rlrr  : kCode env 69 false inv k (cp c69 29) (act 67 [(0, x0), (3, x3), (4, x4), (5, x5), (23, x23)]) h K = brV x23 (kCode env 69 false inv k (cp c69 58) (act 67 [(0, x0), (3, x3), (4, x4), (5, x5), (23, x23)]) h K) (kCode env 69 false inv k (cp c69 59) (act 67 [(0, x0), (3, x3), (4, x4), (5, x5), (23, x23)]) h K) := kq_cond
theorem r69_3  : kCode env 69 false inv k (cp c69 116) (act 67 [(0, x0), (3, x3), (4, x4), (5, x5), (23, x23)]) h K =
    bnd (inv (.func 39) #[] #[(.int .i64 210)] h) fun x24 =>
    bnd (kSt (pStore Tryz.prog 34 x4 x24.1 x24.2)) fun u =>
    K .normal (act 67 [(4, x4)]) u.2 := kq_reg
theorem res69_0 : resOfFn env.P 69 .ret (act 67 [(4, x4)]) h = bnd (pLoad Tryz.prog 34 x4 h) fun q0 =>
    some (q0, h) := kq_res
theorem r69_4  : kCode env 69 false inv k (cp c69 30) (act 67 [(0, x0), (3, x3), (4, x4), (5, x5), (23, x23)]) h K =
    bnd (pNilCheck Tryz.prog x0) fun x26 =>
    bnd (pFieldAddr Tryz.prog 85 x26 0) fun x27 =>
    bnd (pFieldAddr Tryz.prog 58 x27 0) fun x28 =>
    bnd (pLoad Tryz.prog 55 x28 h) fun x29 =>
    bnd (pIndexAddr Tryz.prog 55 x29 x5) fun x31 =>
    bnd (pLoad Tryz.prog 79 x31 h) fun x32 =>
    bnd (pAlloc Tryz.prog 79 h) fun x7 =>
    bnd (kSt (pStore Tryz.prog 79 x7.1 x32 x7.2)) fun u =>
    K .normal (act 67 [(0, x0), (3, x3), (4, x4), (5, x5), (7, x7.1)]) u.2 := kq_reg
noncomputable abbrev G69_5 {β : Type} (inv : Inv) (x0 x3 x4 x5 x7 : Value) (h : AH) (K : Value → Value → Value → AH → Option β) : Option β :=
    bnd (pFieldAddr Tryz.prog 79 x7 1) fun x34 =>
    bnd (pLoad Tryz.prog 36 x34 h) fun x35 =>
    bnd (pFieldAddr Tryz.prog 79 x7 2) fun x36 =>
    bnd (pLoad Tryz.prog 31 x36 h) fun x37 =>
    bnd (pFieldAddr Tryz.prog 40 x3 4) fun x38 =>
    bnd (pLoad Tryz.prog 37 x38 h) fun x39 =>
    bnd (inv (.func 108) #[] #[x35, x37, x39] h) fun x40 =>
    bnd (pExtract x40.1 0) fun x41 =>
    bnd (pExtract x40.1 1) fun x42 =>
    bnd (pExtract x40.1 2) fun x43 =>
    K (x41) (x42) (x43) x40.2
theorem r69_5  : kCode env 69 false inv k (cp c69 62) (act 67 [(0, x0), (3, x3), (4, x4), (5, x5), (7, x7)]) h K =
    G69_5 inv x0 x3 x4 x5 x7 h fun y8 y9 y10 h => K .normal (act 67 [(0, x0), (4, x4), (5, x5), (7, x7), (8, y8), (9, y9), (10, y10)]) h := kq_reg
theorem r69_6  : kCode env 69 false inv k (cp c69 252) (act 67 [(0, x0), (4, x4), (5, x5), (7, x7), (8, x8), (9, x9), (10, x10)]) h K =
    bnd (pBin Tryz.prog .neq 30 (.tmp 44) (.const (.int .i64 0)) x10 (.int .i64 0)) fun x45 =>
    K .normal (act 67 [(0, x0), (4, x4), (5, x5), (7, x7), (8, x8), (9, x9), (10, x10), (45, x45)]) h := kq_reg
theorem b69_rlrrrrr  : kCode env 69 false inv k (cp c69 253) (act 67 [(0, x0), (4, x4), (5, x5), (7, x7), (8, x8), (9, x9), (10, x10), (45, x45)]) h K = brV x45 (kCode env 69 false inv k (cp c69 506) (act 67 [(0, x0), (4, x4), (5, x5), (7, x7), (8, x8), (9, x9), (10, x10), (45, x45)]) h K) (kCode env 69 false inv k (cp c69 507) (act 67 [(0, x0), (4, x4), (5, x5), (7, x7), (8, x8), (9, x9), (10, x10), (45, x45)]) h K) := kq_cond
theorem r69_7  : kCode env 69 false inv k (cp c69 1012) (act 67 [(0, x0), (4, x4), (5, x5), (7, x7), (8, x8), (9, x9), (10, x10), (45, x45)]) h K =
    bnd (inv (.func 39) #[] #[x10] h) fun x47 =>
    bnd (kSt (pStore Tryz.prog 34 x4 x47.1 x47.2)) fun u =>
    K .normal (act 67 [(4, x4)]) u.2 := kq_reg
theorem r69_8  : kCode env 69 false inv k (cp c69 254) (act 67 [(0, x0), (4, x4), (5, x5), (7, x7), (8, x8), (9, x9), (10, x10), (45, x45)]) h K =
    bnd (pFieldAddr Tryz.prog 79 x7 2) fun x49 =>
    bnd (kSt (pStore Tryz.prog 31 x49 x8 h)) fun u =>
    K .normal (act 67 [(0, x0), (4, x4), (5, x5), (7, x7), (9, x9)]) u.2 := kq_reg
noncomputable abbrev G69_9 {β : Type} (inv : Inv) (x0 x4 x5 x7 x9 : Value) (h : AH) (K : AH → Option β) : Option β :=
    bnd (pNilCheck Tryz.prog x0) fun x52 =>
    bnd (pFieldAddr Tryz.prog 85 x52 0) fun x53 =>
    bnd (pFieldAddr Tryz.prog 58 x53 0) fun x54 =>
    bnd (pLoad Tryz.prog 55 x54 h) fun x55 =>
    bnd (pBin Tryz.prog .add 3 (.tmp 57) (.const (.int .i64 1)) x5 (.int .i64 1)) fun x58 =>
    bnd (pLoad Tryz.prog 79 x7 h) fun x59 =>
    bnd (pBuildSlice Tryz.prog 55 1 #[(0, x59)] h) fun x60 =>
    bnd (inv (.func 106) #[] #[x55, x5, x58, x60.1] x60.2) fun x61 =>
    bnd (pNilCheck Tryz.prog x0) fun x62 =>
    bnd (pFieldAddr Tryz.prog 85 x62 0) fun x63 =>
    bnd (pFieldAddr Tryz.prog 58 x63 0) fun x64 =>
    bnd (kSt (pStore Tryz.prog 55 x64 x61.1 x61.2)) fun u =>
    chkK ((!true || !true || (sameO (pLoad Tryz.prog 55 x54 h) x55 && sameO (pLoad Tryz.prog 55 x54 x60.2) x55)) && true) <|
    K u.2
theorem r69_9  : kCode env 69 false inv k (cp c69 510) (act 67 [(0, x0), (4, x4), (5, x5), (7, x7), (9, x9)]) h K =
    G69_9 inv x0 x4 x5 x7 x9 h fun  h => K .normal (act 67 [(4, x4), (9, x9)]) h := kq_draw
theorem r69_10  : kCode env 69 false inv k (cp c69 1022) (act 67 [(4, x4), (9, x9)]) h K =
    bnd (pBuild Tryz.prog 34 #[(3, x9)]) fun x66 =>
    bnd (kSt (pStore Tryz.prog 34 x4 x66 h)) fun u =>
    K .normal (act 67 [(4, x4)]) u.2 := kq_reg
/-- (*shadowbook/model.Model).batch -/
noncomputable def F69 (inv : Inv) (k : Nat) (x0 x1 : Value) (h : AH) : Option (Value × AH) :=
    bnd (pBox Tryz.prog 40 x1 h) fun x3 =>
    bnd (pAlloc Tryz.prog 34 x3.2) fun x4 =>
    bnd (pNilCheck Tryz.prog x0) fun x13 =>
    bnd (pFieldAddr Tryz.prog 85 x13 0) fun x14 =>
    bnd (pFieldAddr Tryz.prog 58 x14 0) fun x15 =>
    bnd (pLoad Tryz.prog 55 x15 x4.2) fun x16 =>
    bnd (pFieldAddr Tryz.prog 40 x3.1 1) fun x17 =>
    bnd (pLoad Tryz.prog 9 x17 x4.2) fun x18 =>
    bnd (inv (.func 104) #[] #[x16, x18, (.func (.func 105) #[] #[])] x4.2) fun x19 =>
    bnd (pExtract x19.1 0) fun x20 =>
    bnd (pExtract x19.1 1) fun x21 =>
    bnd (pUn Tryz.prog .not x21) fun x23 =>
    brV x23
    (bnd (inv (.func 39) #[] #[(.int .i64 210)] x19.2) fun x24 =>
    bnd (kSt (pStore Tryz.prog 34 x4.1 x24.1 x24.2)) fun u =>
    bnd (pLoad Tryz.prog 34 x4.1 u.2) fun q0 =>
    some (q0, u.2))
    (bnd (pNilCheck Tryz.prog x0) fun x26 =>
    bnd (pFieldAddr Tryz.prog 85 x26 0) fun x27 =>
    bnd (pFieldAddr Tryz.prog 58 x27 0) fun x28 =>
    bnd (pLoad Tryz.prog 55 x28 x19.2) fun x29 =>
    bnd (pIndexAddr Tryz.prog 55 x29 x20) fun x31 =>
    bnd (pLoad Tryz.prog 79 x31 x19.2) fun x32 =>
    bnd (pAlloc Tryz.prog 79 x19.2) fun x7 =>
    bnd (kSt (pStore Tryz.prog 79 x7.1 x32 x7.2)) fun u_1 =>
    G69_5 inv x0 x3.1 x4.1 x20 x7.1 u_1.2 fun y8 y9 y10 h =>
    bnd (pBin Tryz.prog .neq 30 (.tmp 44) (.const (.int .i64 0)) y10 (.int .i64 0)) fun x45 =>
    brV x45
    (bnd (inv (.func 39) #[] #[y10] h) fun x47 =>
    bnd (kSt (pStore Tryz.prog 34 x4.1 x47.1 x47.2)) fun u_2 =>
    bnd (pLoad Tryz.prog 34 x4.1 u_2.2) fun q0 =>
    some (q0, u_2.2))
    (bnd (pFieldAddr Tryz.prog 79 x7.1 2) fun x49 =>
    bnd (kSt (pStore Tryz.prog 31 x49 y8 h)) fun u_3 =>
    G69_9 inv x0 x4.1 x20 x7.1 y9 u_3.2 fun  h_4 =>
    bnd (pBuild Tryz.prog 34 #[(3, y9)]) fun x66 =>
    bnd (kSt (pStore Tryz.prog 34 x4.1 x66 h_4)) fun u_5 =>
    bnd (pLoad Tryz.prog 34 x4.1 u_5.2) fun q0 =>
    some (q0, u_5.2)))
theorem F69_eq : eFun env k inv 69 #[x0, x1] h = F69 inv k x0 x1 h := by
      refine (kq_fun (a := act 67 [(0, x0), (1, x1)]) (c := cp c69 1)).trans ?_
      unfold F69
      simp only [kq_seq c69 1, r69_0, kq_seq c69 3, r69_1, kq_seq c69 7, kq_seq c69 14, r69_2, b69_rlrr, kq_seq c69 58, r69_3, kq_ret c69 117, res69_0, kq_skip c69 59, kq_seq c69 15, r69_4, kq_seq c69 31, r69_5, kq_seq c69 63, kq_seq c69 126, r69_6, b69_rlrrrrr, kq_seq c69 506, r69_7, kq_ret c69 1013, kq_skip c69 507, kq_seq c69 127, r69_8, kq_seq c69 255, r69_9, kq_seq c69 511, r69_10, kq_ret c69 1023, reduceIte, reduceCtorEq, XE.exit.injEq, Nat.reduceEqDiff, Nat.reduceMul, Nat.reduceAdd] <;> kernel_rfl
theorem F69_call : eInv env (k + 1) (.func 69) #[] #[x0, x1] h = F69 (eInv env k) k x0 x1 h := kq_inv F69_eq
noncomputable def c70 : Code := codeOf Tryz.prog 70
theorem r70_0  : kCode env 70 false inv k (cp c70 2) (act 82 [(0, x0), (1, x1)]) h K =
    bnd (pBox Tryz.prog 40 x1 h) fun x3 =>
    bnd (pAlloc Tryz.prog 34 x3.2) fun x4 =>
    K .normal (act 82 [(0, x0), (3, x3.1), (4, x4.1)]) x4.2 := kq_reg
theorem r70_1  : kCode env 70 false inv k (cp c70 6) (act 82 [(0, x0), (3, x3), (4, x4)]) h K =
    bnd (pLoad Tryz.prog 40 x3 h) fun x17 =>
    bnd (inv (.func 109) #[] #[x0, x17] h) fun x18 =>
    bnd (pExtract x18.1 0) fun x19 =>
    bnd (pExtract x18.1 1) fun x20 =>
    bnd (pAlloc Tryz.prog 79 x18.2) fun x5 =>
    bnd (kSt (pStore Tryz.prog 79 x5.1 x19 x5.2)) fun u =>
    K .normal (act 82 [(3, x3), (4, x4), (5, x5.1), (6, x20)]) u.2 := kq_reg
theorem r70_2  : kCode env 70 false inv k (cp c70 28) (act 82 [(3, x3), (4, x4), (5, x5), (6, x6)]) h K =
    bnd (pBin Tryz.prog .neq 30 (.tmp 21) (.const (.int .i64 0)) x6 (.int .i64 0)) fun x22 =>
    K .normal (act 82 [(3, x3), (4, x4), (5, x5), (6, x6), (22, x22)]) h := kq_reg
theorem b70_rlrr  : kCode env 70 false inv k (cp c70 29) (act 82 [(3, x3), (4, x4), (5, x5), (6, x6), (22, x22)]) h K = brV x22 (kCode env 70 false inv k (cp c70 58) (act 82 [(3, x3), (4, x4), (5, x5), (6, x6), (22, x22)]) h K) (kCode env 70 false inv k (cp c70 59) (act 82 [(3, x3), (4, x4), (5, x5), (6, x6), (22, x22)]) h K) := kq_cond
theorem r70_3  : kCode env 70 false inv k (cp c70 116) (act 82 [(3, x3), (4, x4), (5, x5), (6, x6), (22, x22)]) h K =
    bnd (inv (.func 39) #[] #[x6] h) fun x24 =>
    bnd (kSt (pStore Tryz.prog 34 x4 x24.1 x24.2)) fun u =>
    K .normal (act 82 [(4, x4)]) u.2 := kq_reg
theorem res70_0 : resOfFn env.P 70 .ret (act 82 [(4, x4)]) h = bnd (pLoad Tryz.prog 34 x4 h) fun q0 =>
    some (q0, h) := kq_res
theorem r70_4  : kCode env 70 false inv k (cp c70 60) (act 82 [(3, x3), (4, x4), (5, x5), (6, x6), (22, x22)]) h K =
    bnd (pFieldAddr Tryz.prog 79 x5 1) fun x26 =>
    bnd (pLoad Tryz.prog 36 x26 h) fun x27 =>
    bnd (pFieldAddr Tryz.prog 40 x3 6) fun x28 =>
    bnd (pLoad Tryz.prog 24 x28 h) fun x29 =>
    bnd (inv (.func 110) #[] #[x27, x29] h) fun x30 =>
    bnd (pExtract x30.1 0) fun x31 =>
    bnd (pExtract x30.1 1) fun x32 =>
    K .normal (act 82 [(3, x3), (4, x4), (5, x5), (8, x32)]) x30.2 := kq_reg
theorem r70_5  : kCode env 70 false inv k (cp c70 122) (act 82 [(3, x3), (4, x4), (5, x5), (8, x8)]) h K =
    bnd (pBin Tryz.prog .neq 30 (.tmp 33) (.const (.int .i64 0)) x8 (.int .i64 0)) fun x34 =>
    K .normal (act 82 [(3, x3), (4, x4), (5, x5), (8, x8), (34, x34)]) h := kq_reg
theorem b70_rrlrrr  : kCode env 70 false inv k (cp c70 123) (act 82 [(3, x3), (4, x4), (5, x5), (8, x8), (34, x34)]) h K = brV x34 (kCode env 70 false inv k (cp c70 246) (act 82 [(3, x3), (4, x4), (5, x5), (8, x8), (34, x34)]) h K) (kCode env 70 false inv k (cp c70 247) (act 82 [(3, x3), (4, x4), (5, x5), (8, x8), (34, x34)]) h K) := kq_cond
theorem r70_6  : kCode env 70 false inv k (cp c70 492) (act 82 [(3, x3), (4, x4), (5, x5), (8, x8), (34, x34)]) h K =
    bnd (inv (.func 39) #[] #[x8] h) fun x36 =>
    bnd (kSt (pStore Tryz.prog 34 x4 x36.1 x36.2)) fun u =>
    K .normal (act 82 [(4, x4)]) u.2 := kq_reg
theorem r70_7  : kCode env 70 false inv k (cp c70 124) (act 82 [(3, x3), (4, x4), (5, x5), (8, x8), (34, x34)]) h K =
    bnd (pFieldAddr Tryz.prog 79 x5 1) fun x37 =>
    bnd (pLoad Tryz.prog 36 x37 h) fun x38 =>
    bnd (pFieldAddr Tryz.prog 40 x3 5) fun x39 =>
    bnd (pLoad Tryz.prog 23 x39 h) fun x40 =>
    bnd (inv (.func 111) #[] #[x38, x40] h) fun x41 =>
    K .normal (act 82 [(3, x3), (4, x4), (5, x5), (9, x41.1)]) x41.2 := kq_reg
theorem r70_8  : kCode env 70 false inv k (cp c70 250) (act 82 [(3, x3), (4, x4), (5, x5), (9, x9)]) h K =
    bnd (pBin Tryz.prog .neq 30 (.tmp 42) (.const (.int .i64 0)) x9 (.int .i64 0)) fun x43 =>
    K .normal (act 82 [(3, x3), (4, x4), (5, x5), (9, x9), (43, x43)]) h := kq_reg
theorem b70_rrlrrrr  : kCode env 70 false inv k (cp c70 251) (act 82 [(3, x3), (4, x4), (5, x5), (9, x9), (43, x43)]) h K = brV x43 (kCode env 70 false inv k (cp c70 502) (act 82 [(3, x3), (4, x4), (5, x5), (9, x9), (43, x43)]) h K) (kCode env 70 false inv k (cp c70 503) (act 82 [(3, x3), (4, x4), (5, x5), (9, x9), (43, x43)]) h K) := kq_cond
theorem r70_9  : kCode env 70 false inv k (cp c70 1004) (act 82 [(3, x3), (4, x4), (5, x5), (9, x9), (43, x43)]) h K =
    bnd (inv (.func 39) #[] #[x9] h) fun x45 =>
    bnd (kSt (pStore Tryz.prog 34 x4 x45.1 x45.2)) fun u =>
    K .normal (act 82 [(4, x4)]) u.2 := kq_reg
theorem r70_10  : kCode env 70 false inv k (cp c70 126) (act 82 [(3, x3), (4, x4), (5, x5), (9, x9), (43, x43)]) h K =
    bnd (pFieldAddr Tryz.prog 40 x3 6) fun x46 =>
    bnd (pLoad Tryz.prog 24 x46 h) fun x47 =>
    K .normal (act 82 [(3, x3), (4, x4), (5, x5), (10, x47)]) h := kq_reg
theorem r70_11  : kCode env 70 false inv k (cp c70 508) (act 82 [(3, x3), (4, x4), (5, x5), (10, x10)]) h K =
    bnd (pLen Tryz.prog #[24] x10 h) fun x49 =>
    bnd (pBin Tryz.prog .eql 3 (.tmp 49) (.const (.int .i64 0)) x49 (.int .i64 0)) fun x50 =>
    K .normal (act 82 [(3, x3), (4, x4), (5, x5), (10, x10), (50, x50)]) h := kq_reg
theorem b70_rlrrrrrr  : kCode env 70 false inv k (cp c70 509) (act 82 [(3, x3), (4, x4), (5, x5), (10, x10), (50, x50)]) h K = brV x50 (kCode env 70 false inv k (cp c70 1018) (act 82 [(3, x3), (4, x4), (5, x5), (10, x10), (50, x50)]) h K) (kCode env 70 false inv k (cp c70 1019) (act 82 [(3, x3), (4, x4), (5, x5), (10, x10), (50, x50)]) h K) := kq_cond
theorem r70_12  : kCode env 70 false inv k (cp c70 2036) (act 82 [(3, x3), (4, x4), (5, x5), (10, x10), (50, x50)]) h K =
    bnd (pFieldAddr Tryz.prog 79 x5 1) fun x51 =>
    bnd (pLoad Tryz.prog 36 x51 h) fun x52 =>
    bnd (pLen Tryz.prog #[36] x52 h) fun x53 =>
    K .normal (act 82 [(3, x3), (4, x4), (5, x5), (10, x10), (53, x53), (54, (.int .i64 0))]) h := kq_reg
theorem r70_13  : kCode env 70 false inv k (cp c70 16296) (act 82 [(3, x3), (4, x4), (5, x5), (10, x10), (53, x53), (54, x54)]) h K =
    bnd (pBin Tryz.prog .lss 3 (.tmp 54) (.tmp 53) x54 x53) fun x55 =>
    K .normal (act 82 [(3, x3), (4, x4), (5, x5), (10, x10), (53, x53), (54, x54), (55, x55)]) h := kq_reg
theorem b70_lrllrlrlrrrrrr  : kCode env 70 false inv k (cp c70 32594) (act 82 [(3, x3), (4, x4), (5, x5), (10, x10), (53, x53), (54, x54), (55, x55)]) h K = brV x55 (kCode env 70 false inv k (cp c70 65188) (act 82 [(3, x3), (4, x4), (5, x5), (10, x10), (53, x53), (54, x54), (55, x55)]) h K) (kCode env 70 false inv k (cp c70 65189) (act 82 [(3, x3), (4, x4), (5, x5), (10, x10), (53, x53), (54, x54), (55, x55)]) h K) := kq_cond
theorem r70_14  : kCode env 70 false inv k (cp c70 260760) (act 82 [(3, x3), (4, x4), (5, x5), (10, x10), (53, x53), (54, x54), (55, x55)]) h K =
    K .normal (act 82 [(3, x3), (4, x4), (5, x5), (10, x10), (11, x54), (53, x53), (54, x54)]) h := kq_reg
theorem r70_15  : kCode env 70 false inv k (cp c70 260761) (act 82 [(3, x3), (4, x4), (5, x5), (10, x10), (11, x11), (53, x53), (54, x54)]) h K =
    bnd (pBuildSlice Tryz.prog 24 1 #[(0, x11)] h) fun x59 =>
    bnd (pAppend Tryz.prog #[24, 24] x10 x59.1 x59.2) fun x60 =>
    K .normal (act 82 [(3, x3), (4, x4), (5, x5), (10, x60.1), (53, x53), (54, x54)]) x60.2 := kq_reg
theorem r70_16  : kCode env 70 false inv k (cp c70 65191) (act 82 [(3, x3), (4, x4), (5, x5), (10, x10), (53, x53), (54, x54)]) h K =
    bnd (pBin Tryz.prog .add 3 (.tmp 54) (.const (.int .i64 1)) x54 (.int .i64 1)) fun x61 =>
    K .normal (act 82 [(3, x3), (4, x4), (5, x5), (10, x10), (53, x53), (54, x61)]) h := kq_reg
noncomputable def F70_lrlrlrrrrrr {β : Type} (inv : Inv) (k : Nat) : Nat → Value → Value → Value → Value → Value → Value → AH → (Value → Value → Value → Value → Value → Value → Value → AH → Option β) → Option β
  | 0, _, _, _, _, _, _, _, _ => none
  | j + 1, x3, x4, x5, x10, x53, x54, h, ke0 =>
    bnd (pBin Tryz.prog .lss 3 (.tmp 54) (.tmp 53) x54 x53) fun x55 =>
    brV x55
    (bnd (pBuildSlice Tryz.prog 24 1 #[(0, x54)] h) fun x59 =>
    bnd (pAppend Tryz.prog #[24, 24] x10 x59.1 x59.2) fun x60 =>
    bnd (pBin Tryz.prog .add 3 (.tmp 54) (.const (.int .i64 1)) x54 (.int .i64 1)) fun x61 =>
    F70_lrlrlrrrrrr inv k j x3 x4 x5 x60.1 x53 x61 x60.2 ke0)
    (ke0 x3 x4 x5 x10 x53 x54 x55 h)
theorem F70_lrlrlrrrrrr_j (j : Nat) : kLoop (kCode env 70 false inv k (cp c70 8148)) j (act 82 [(3, x3), (4, x4), (5, x5), (10, x10), (53, x53), (54, x54)]) h K = F70_lrlrlrrrrrr inv k j x3 x4 x5 x10 x53 x54 h (fun y3 y4 y5 y10 y53 y54 y55 h => K (.exit 0) (act 82 [(3, y3), (4, y4), (5, y5), (10, y10), (53, y53), (54, y54), (55, y55)]) h) := by
      induction j generalizing x3 x4 x5 x10 x53 x54 h with
      | zero => rfl
      | succ j ih =>
        unfold F70_lrlrlrrrrrr
        simp only [kLoop, kq_seq c70 8148, r70_13, kq_seq c70 16297, b70_lrllrlrlrrrrrr, kq_skip c70 65188, kq_seq c70 32595, kq_block c70 65190 1, kq_seq c70 130380, r70_14, r70_15, r70_16, kq_exit c70 65189 0, ih, reduceIte, reduceCtorEq, XE.exit.injEq, Nat.reduceEqDiff, Nat.reduceMul, Nat.reduceAdd] <;> kernel_rfl
theorem F70_lrlrlrrrrrr_eq  : kCode env 70 false inv k (cp c70 4074) (act 82 [(3, x3), (4, x4), (5, x5), (10, x10), (53, x53), (54, x54)]) h K = F70_lrlrlrrrrrr inv k k x3 x4 x5 x10 x53 x54 h (fun y3 y4 y5 y10 y53 y54 y55 h => K (.exit 0) (act 82 [(3, y3), (4, y4), (5, y5), (10, y10), (53, y53), (54, y54), (55, y55)]) h) := kq_loop (F70_lrlrlrrrrrr_j k)
noncomputable def F70_rlrrrrrr {β : Type} (inv : Inv) (k : Nat) (x3 x4 x5 x10 x50 : Value) (h : AH) (kn : (Value → Value → Value → Value → Value → Value → Value → Value → AH → Option β)) : Option β :=
    brV x50
    (bnd (pFieldAddr Tryz.prog 79 x5 1) fun x51 =>
    bnd (pLoad Tryz.prog 36 x51 h) fun x52 =>
    bnd (pLen Tryz.prog #[36] x52 h) fun x53 =>
    F70_lrlrlrrrrrr inv k k x3 x4 x5 x10 x53 (.int .i64 0) h
    (fun y3 y4 y5 y10 y53 y54 y55 h =>
    kn y3 y4 y5 y10 unk y53 y54 y55 h))
    (kn x3 x4 x5 x10 x50 unk unk unk h)
theorem F70_rlrrrrrr_eq  : kCode env 70 false inv k (cp c70 509) (act 82 [(3, x3), (4, x4), (5, x5), (10, x10), (50, x50)]) h K = F70_rlrrrrrr inv k x3 x4 x5 x10 x50 h (fun y3 y4 y5 y10 y50 y53 y54 y55 h => K .normal (act 82 [(3, y3), (4, y4), (5, y5), (10, y10), (50, y50), (53, y53), (54, y54), (55, y55)]) h) := by
      unfold F70_rlrrrrrr
      simp only [b70_rlrrrrrr, kq_seq c70 1018, r70_12, kq_block c70 2037 0, F70_lrlrlrrrrrr_eq, kq_skip c70 1019, reduceIte, reduceCtorEq, XE.exit.injEq, Nat.reduceEqDiff, Nat.reduceMul, Nat.reduceAdd] <;> kernel_rfl
theorem r70_17  : kCode env 70 false inv k (cp c70 510) (act 82 [(3, x3), (4, x4), (5, x5), (10, x10), (50, x50), (53, x53), (54, x54), (55, x55)]) h K =
    bnd (pAlloc Tryz.prog 34 h) fun x12 =>
    K .normal (act 82 [(3, x3), (4, x4), (5, x5), (10, x10), (12, x12.1)]) x12.2 := kq_reg
theorem r70_18  : kCode env 70 false inv k (cp c70 2044) (act 82 [(3, x3), (4, x4), (5, x5), (10, x10), (12, x12)]) h K =
    bnd (pFieldAddr Tryz.prog 40 x3 5) fun x62 =>
    bnd (pLoad Tryz.prog 23 x62 h) fun x63 =>
    bnd (pFieldAddr Tryz.prog 79 x5 2) fun x64 =>
    bnd (pLoad Tryz.prog 31 x64 h) fun x65 =>
    bnd (inv (.func 112) #[] #[x63, x65] h) fun x66 =>
    bnd (pLen Tryz.prog #[31] x66.1 x66.2) fun x67 =>
    K .normal (act 82 [(4, x4), (10, x10), (12, x12), (66, x66.1), (67, x67), (68, (.int .i64 0))]) x66.2 := kq_reg
theorem r70_19  : kCode env 70 false inv k (cp c70 16360) (act 82 [(4, x4), (10, x10), (12, x12), (66, x66), (67, x67), (68, x68)]) h K =
    bnd (pBin Tryz.prog .lss 3 (.tmp 68) (.tmp 67) x68 x67) fun x69 =>
    K .normal (act 82 [(4, x4), (10, x10), (12, x12), (66, x66), (67, x67), (68, x68), (69, x69)]) h := kq_reg
theorem b70_lrllrlrrrrrrrr  : kCode env 70 false inv k (cp c70 32722) (act 82 [(4, x4), (10, x10), (12, x12), (66, x66), (67, x67), (68, x68), (69, x69)]) h K = brV x69 (kCode env 70 false inv k (cp c70 65444) (act 82 [(4, x4), (10, x10), (12, x12), (66, x66), (67, x67), (68, x68), (69, x69)]) h K) (kCode env 70 false inv k (cp c70 65445) (act 82 [(4, x4), (10, x10), (12, x12), (66, x66), (67, x67), (68, x68), (69, x69)]) h K) := kq_cond
theorem r70_20  : kCode env 70 false inv k (cp c70 261784) (act 82 [(4, x4), (10, x10), (12, x12), (66, x66), (67, x67), (68, x68), (69, x69)]) h K =
    bnd (pIndexAddr Tryz.prog 31 x66 x68) fun x70 =>
    bnd (pLoad Tryz.prog 45 x70 h) fun x71 =>
    K .normal (act 82 [(4, x4), (10, x10), (12, x12), (14, x71), (66, x66), (67, x67), (68, x68)]) h := kq_reg
noncomputable abbrev G70_21 {β : Type} (inv : Inv) (x4 x10 x12 x14 x66 x67 x68 : Value) (h : AH) (K : AH → Option β) : Option β :=
    bnd (pFieldAddr Tryz.prog 34 x12 1) fun x72 =>
    bnd (pLoad Tryz.prog 31 x72 h) fun x73 =>
    bnd (inv (.func 113) #[] #[x14, x10] h) fun x76 =>
    bnd (pBuildSlice Tryz.prog 31 1 #[(0, x76.1)] x76.2) fun x77 =>
    bnd (pAppend Tryz.prog #[31, 31] x73 x77.1 x77.2) fun x78 =>
    bnd (pFieldAddr Tryz.prog 34 x12 1) fun x79 =>
    bnd (kSt (pStore Tryz.prog 31 x79 x78.1 x78.2)) fun u =>
    chkK ((!true || !true || (sameO (pLoad Tryz.prog 31 x72 h) x73 && sameO (pLoad Tryz.prog 31 x72 x76.2) x73)) && ((!true || !true || (sameO (pLoad Tryz.prog 31 x72 x76.2) x73 && sameO (pLoad Tryz.prog 31 x72 x77.2) x73)) && true)) <|
    K u.2
theorem r70_21  : kCode env 70 false inv k (cp c70 261785) (act 82 [(4, x4), (10, x10), (12, x12), (14, x14), (66, x66), (67, x67), (68, x68)]) h K =
    G70_21 inv x4 x10 x12 x14 x66 x67 x68 h fun  h => K .normal (act 82 [(4, x4), (10, x10), (12, x12), (66, x66), (67, x67), (68, x68)]) h := kq_draw
theorem r70_22  : kCode env 70 false inv k (cp c70 65447) (act 82 [(4, x4), (10, x10), (12, x12), (66, x66), (67, x67), (68, x68)]) h K =
    bnd (pBin Tryz.prog .add 3 (.tmp 68) (.const (.int .i64 1)) x68 (.int .i64 1)) fun x80 =>
    K .normal (act 82 [(4, x4), (10, x10), (12, x12), (66, x66), (67, x67), (68, x80)]) h := kq_reg
noncomputable def F70_lrlrrrrrrrr {β : Type} (inv : Inv) (k : Nat) : Nat → Value → Value → Value → Value → Value → Value → AH → (Value → Value → Value → Value → Value → Value → Value → AH → Option β) → Option β
  | 0, _, _, _, _, _, _, _, _ => none
  | j + 1, x4, x10, x12, x66, x67, x68, h, ke2 =>
    bnd (pBin Tryz.prog .lss 3 (.tmp 68) (.tmp 67) x68 x67) fun x69 =>
    brV x69
    (bnd (pIndexAddr Tryz.prog 31 x66 x68) fun x70 =>
    bnd (pLoad Tryz.prog 45 x70 h) fun x71 =>
    G70_21 inv x4 x10 x12 x71 x66 x67 x68 h fun  h =>
    bnd (pBin Tryz.prog .add 3 (.tmp 68) (.const (.int .i64 1)) x68 (.int .i64 1)) fun x80 =>
    F70_lrlrrrrrrrr inv k j x4 x10 x12 x66 x67 x80 h ke2)
    (ke2 x4 x10 x12 x66 x67 x68 x69 h)
theorem F70_lrlrrrrrrrr_j (j : Nat) : kLoop (kCode env 70 false inv k (cp c70 8180)) j (act 82 [(4, x4), (10, x10), (12, x12), (66, x66), (67, x67), (68, x68)]) h K = F70_lrlrrrrrrrr inv k j x4 x10 x12 x66 x67 x68 h (fun y4 y10 y12 y66 y67 y68 y69 h => K (.exit 2) (act 82 [(4, y4), (10, y10), (12, y12), (66, y66), (67, y67), (68, y68), (69, y69)]) h) := by
      induction j generalizing x4 x10 x12 x66 x67 x68 h with
      | zero => rfl
      | succ j ih =>
        unfold F70_lrlrrrrrrrr
        simp only [kLoop, kq_seq c70 8180, r70_19, kq_seq c70 16361, b70_lrllrlrrrrrrrr, kq_skip c70 65444, kq_seq c70 32723, kq_block c70 65446 3, kq_seq c70 130892, r70_20, r70_21, r70_22, kq_exit c70 65445 2, ih, reduceIte, reduceCtorEq, XE.exit.injEq, Nat.reduceEqDiff, Nat.reduceMul, Nat.reduceAdd] <;> kernel_rfl
theorem F70_lrlrrrrrrrr_eq  : kCode env 70 false inv k (cp c70 4090) (act 82 [(4, x4), (10, x10), (12, x12), (66, x66), (67, x67), (68, x68)]) h K = F70_lrlrrrrrrrr inv k k x4 x10 x12 x66 x67 x68 h (fun y4 y10 y12 y66 y67 y68 y69 h => K (.exit 2) (act 82 [(4, y4), (10, y10), (12, y12), (66, y66), (67, y67), (68, y68), (69, y69)]) h) := kq_loop (F70_lrlrrrrrrrr_j k)
theorem r70_23  : kCode env 70 false inv k (cp c70 2046) (act 82 [(4, x4), (10, x10), (12, x12), (66, x66), (67, x67), (68, x68), (69, x69)]) h K =
    bnd (pLoad Tryz.prog 34 x12 h) fun x81 =>
    bnd (kSt (pStore Tryz.prog 34 x4 x81 h)) fun u =>
    K .normal (act 82 [(4, x4)]) u.2 := kq_reg
/-- (*shadowbook/model.Model).scan -/
noncomputable def F70 (inv : Inv) (k : Nat) (x0 x1 : Value) (h : AH) : Option (Value × AH) :=
    bnd (pBox Tryz.prog 40 x1 h) fun x3 =>
    bnd (pAlloc Tryz.prog 34 x3.2) fun x4 =>
    bnd (pLoad Tryz.prog 40 x3.1 x4.2) fun x17 =>
    bnd (inv (.func 109) #[] #[x0, x17] x4.2) fun x18 =>
    bnd (pExtract x18.1 0) fun x19 =>
    bnd (pExtract x18.1 1) fun x20 =>
    bnd (pAlloc Tryz.prog 79 x18.2) fun x5 =>
    bnd (kSt (pStore Tryz.prog 79 x5.1 x19 x5.2)) fun u =>
    bnd (pBin Tryz.prog .neq 30 (.tmp 21) (.const (.int .i64 0)) x20 (.int .i64 0)) fun x22 =>
    brV x22
    (bnd (inv (.func 39) #[] #[x20] u.2) fun x24 =>
    bnd (kSt (pStore Tryz.prog 34 x4.1 x24.1 x24.2)) fun u_1 =>
    bnd (pLoad Tryz.prog 34 x4.1 u_1.2) fun q0 =>
    some (q0, u_1.2))
    (bnd (pFieldAddr Tryz.prog 79 x5.1 1) fun x26 =>
    bnd (pLoad Tryz.prog 36 x26 u.2) fun x27 =>
    bnd (pFieldAddr Tryz.prog 40 x3.1 6) fun x28 =>
    bnd (pLoad Tryz.prog 24 x28 u.2) fun x29 =>
    bnd (inv (.func 110) #[] #[x27, x29] u.2) fun x30 =>
    bnd (pExtract x30.1 0) fun x31 =>
    bnd (pExtract x30.1 1) fun x32 =>
    bnd (pBin Tryz.prog .neq 30 (.tmp 33) (.const (.int .i64 0)) x32 (.int .i64 0)) fun x34 =>
    brV x34
    (bnd (inv (.func 39) #[] #[x32] x30.2) fun x36 =>
    bnd (kSt (pStore Tryz.prog 34 x4.1 x36.1 x36.2)) fun u_2 =>
    bnd (pLoad Tryz.prog 34 x4.1 u_2.2) fun q0 =>
    some (q0, u_2.2))
    (bnd (pFieldAddr Tryz.prog 79 x5.1 1) fun x37 =>
    bnd (pLoad Tryz.prog 36 x37 x30.2) fun x38 =>
    bnd (pFieldAddr Tryz.prog 40 x3.1 5) fun x39 =>
    bnd (pLoad Tryz.prog 23 x39 x30.2) fun x40 =>
    bnd (inv (.func 111) #[] #[x38, x40] x30.2) fun x41 =>
    bnd (pBin Tryz.prog .neq 30 (.tmp 42) (.const (.int .i64 0)) x41.1 (.int .i64 0)) fun x43 =>
    brV x43
    (bnd (inv (.func 39) #[] #[x41.1] x41.2) fun x45 =>
    bnd (kSt (pStore Tryz.prog 34 x4.1 x45.1 x45.2)) fun u_3 =>
    bnd (pLoad Tryz.prog 34 x4.1 u_3.2) fun q0 =>
    some (q0, u_3.2))
    (bnd (pFieldAddr Tryz.prog 40 x3.1 6) fun x46 =>
    bnd (pLoad Tryz.prog 24 x46 x41.2) fun x47 =>
    bnd (pLen Tryz.prog #[24] x47 x41.2) fun x49 =>
    bnd (pBin Tryz.prog .eql 3 (.tmp 49) (.const (.int .i64 0)) x49 (.int .i64 0)) fun x50 =>
    F70_rlrrrrrr inv k x3.1 x4.1 x5.1 x47 x50 x41.2
    (fun y3 y4 y5 y10 y50 y53 y54 y55 h =>
    bnd (pAlloc Tryz.prog 34 h) fun x12 =>
    bnd (pFieldAddr Tryz.prog 40 y3 5) fun x62 =>
    bnd (pLoad Tryz.prog 23 x62 x12.2) fun x63 =>
    bnd (pFieldAddr Tryz.prog 79 y5 2) fun x64 =>
    bnd (pLoad Tryz.prog 31 x64 x12.2) fun x65 =>
    bnd (inv (.func 112) #[] #[x63, x65] x12.2) fun x66 =>
    bnd (pLen Tryz.prog #[31] x66.1 x66.2) fun x67 =>
    F70_lrlrrrrrrrr inv k k y4 y10 x12.1 x66.1 x67 (.int .i64 0) x66.2
    (fun y4_4 y10_5 y12 y66 y67 y68 y69 h_6 =>
    bnd (pLoad Tryz.prog 34 y12 h_6) fun x81 =>
    bnd (kSt (pStore Tryz.prog 34 y4_4 x81 h_6)) fun u_7 =>
    bnd (pLoad Tryz.prog 34 y4_4 u_7.2) fun q0 =>
    some (q0, u_7.2))))))
theorem F70_eq : eFun env k inv 70 #[x0, x1] h = F70 inv k x0 x1 h := by
      refine (kq_fun (a := act 82 [(0, x0), (1, x1)]) (c := cp c70 1)).trans ?_
      unfold F70
      simp only [kq_seq c70 1, r70_0, kq_seq c70 3, r70_1, kq_seq c70 7, kq_seq c70 14, r70_2, b70_rlrr, kq_seq c70 58, r70_3, kq_ret c70 117, res70_0, kq_skip c70 59, kq_seq c70 15, kq_seq c70 30, r70_4, kq_seq c70 61, r70_5, b70_rrlrrr, kq_seq c70 246, r70_6, kq_ret c70 493, kq_skip c70 247, kq_seq c70 31, kq_seq c70 62, r70_7, kq_seq c70 125, r70_8, b70_rrlrrrr, kq_seq c70 502, r70_9, kq_ret c70 1005, kq_skip c70 503, kq_seq c70 63, r70_10, kq_seq c70 127, kq_seq c70 254, r70_11, F70_rlrrrrrr_eq, kq_seq c70 255, r70_17, kq_seq c70 511, kq_seq c70 1022, r70_18, kq_block c70 2045 2, F70_lrlrrrrrrrr_eq, kq_seq c70 1023, r70_23, kq_ret c70 2047, reduceIte, reduceCtorEq, XE.exit.injEq, Nat.reduceEqDiff, Nat.reduceMul, Nat.reduceAdd] <;> kernel_rfl
theorem F70_call : eInv env (k + 1) (.func 70) #[] #[x0, x1] h = F70 (eInv env k) k x0 x1 h := kq_inv F70_eq
noncomputable def c71 : Code := codeOf Tryz.prog 71
theorem r71_0  : kCode env 71 false inv k (cp c71 2) (act 58 [(0, x0), (1, x1)]) h K =
    bnd (pBox Tryz.prog 40 x1 h) fun x3 =>
    bnd (pAlloc Tryz.prog 34 x3.2) fun x4 =>
    K .normal (act 58 [(0, x0), (3, x3.1), (4, x4.1)]) x4.2 := kq_reg
theorem r71_1  : kCode env 71 false inv k (cp c71 6) (act 58 [(0, x0), (3, x3), (4, x4)]) h K =
    bnd (pLoad Tryz.prog 40 x3 h) fun x12 =>
    bnd (inv (.func 109) #[] #[x0, x12] h) fun x13 =>
    bnd (pExtract x13.1 0) fun x14 =>
    bnd (pExtract x13.1 1) fun x15 =>
    bnd (pAlloc Tryz.prog 79 x13.2) fun x5 =>
    bnd (kSt (pStore Tryz.prog 79 x5.1 x14 x5.2)) fun u =>
    K .normal (act 58 [(3, x3), (4, x4), (5, x5.1), (6, x15)]) u.2 := kq_reg
theorem r71_2  : kCode env 71 false inv k (cp c71 28) (act 58 [(3, x3), (4, x4), (5, x5), (6, x6)]) h K =
    bnd (pBin Tryz.prog .neq 30 (.tmp 16) (.const (.int .i64 0)) x6 (.int .i64 0)) fun x17 =>
    K .normal (act 58 [(3, x3), (4, x4), (5, x5), (6, x6), (17, x17)]) h := kq_reg
theorem b71_rlrr  : kCode env 71 false inv k (cp c71 29) (act 58 [(3, x3), (4, x4), (5, x5), (6, x6), (17, x17)]) h K = brV x17 (kCode env 71 false inv k (cp c71 58) (act 58 [(3, x3), (4, x4), (5, x5), (6, x6), (17, x17)]) h K) (kCode env 71 false inv k (cp c71 59) (act 58 [(3, x3), (4, x4), (5, x5), (6, x6), (17, x17)]) h K) := kq_cond
theorem r71_3  : kCode env 71 false inv k (cp c71 116) (act 58 [(3, x3), (4, x4), (5, x5), (6, x6), (17, x17)]) h K =
    bnd (inv (.func 39) #[] #[x6] h) fun x19 =>
    bnd (kSt (pStore Tryz.prog 34 x4 x19.1 x19.2)) fun u =>
    K .normal (act 58 [(4, x4)]) u.2 := kq_reg
theorem res71_0 : resOfFn env.P 71 .ret (act 58 [(4, x4)]) h = bnd (pLoad Tryz.prog 34 x4 h) fun q0 =>
    some (q0, h) := kq_res
theorem r71_4  : kCode env 71 false inv k (cp c71 60) (act 58 [(3, x3), (4, x4), (5, x5), (6, x6), (17, x17)]) h K =
    bnd (pFieldAddr Tryz.prog 79 x5 1) fun x20 =>
    bnd (pLoad Tryz.prog 36 x20 h) fun x21 =>
    bnd (pFieldAddr Tryz.prog 40 x3 6) fun x22 =>
    bnd (pLoad Tryz.prog 24 x22 h) fun x23 =>
    bnd (pFieldAddr Tryz.prog 40 x3 7) fun x24 =>
    bnd (pLoad Tryz.prog 38 x24 h) fun x25 =>
    bnd (inv (.func 114) #[] #[x21, x23, x25] h) fun x26 =>
    K .normal (act 58 [(3, x3), (4, x4), (5, x5), (7, x26.1)]) x26.2 := kq_reg
theorem r71_5  : kCode env 71 false inv k (cp c71 122) (act 58 [(3, x3), (4, x4), (5, x5), (7, x7)]) h K =
    bnd (pBin Tryz.prog .neq 30 (.tmp 27) (.const (.int .i64 0)) x7 (.int .i64 0)) fun x28 =>
    K .normal (act 58 [(3, x3), (4, x4), (5, x5), (7, x7), (28, x28)]) h := kq_reg
theorem b71_rrlrrr  : kCode env 71 false inv k (cp c71 123) (act 58 [(3, x3), (4, x4), (5, x5), (7, x7), (28, x28)]) h K = brV x28 (kCode env 71 false inv k (cp c71 246) (act 58 [(3, x3), (4, x4), (5, x5), (7, x7), (28, x28)]) h K) (kCode env 71 false inv k (cp c71 247) (act 58 [(3, x3), (4, x4), (5, x5), (7, x7), (28, x28)]) h K) := kq_cond
theorem r71_6  : kCode env 71 false inv k (cp c71 492) (act 58 [(3, x3), (4, x4), (5, x5), (7, x7), (28, x28)]) h K =
    bnd (inv (.func 39) #[] #[x7] h) fun x30 =>
    bnd (kSt (pStore Tryz.prog 34 x4 x30.1 x30.2)) fun u =>
    K .normal (act 58 [(4, x4)]) u.2 := kq_reg
theorem r71_7  : kCode env 71 false inv k (cp c71 124) (act 58 [(3, x3), (4, x4), (5, x5), (7, x7), (28, x28)]) h K =
    bnd (pFieldAddr Tryz.prog 79 x5 1) fun x31 =>
    bnd (pLoad Tryz.prog 36 x31 h) fun x32 =>
    bnd (pFieldAddr Tryz.prog 40 x3 5) fun x33 =>
    bnd (pLoad Tryz.prog 23 x33 h) fun x34 =>
    bnd (inv (.func 111) #[] #[x32, x34] h) fun x35 =>
    K .normal (act 58 [(3, x3), (4, x4), (5, x5), (8, x35.1)]) x35.2 := kq_reg
theorem r71_8  : kCode env 71 false inv k (cp c71 250) (act 58 [(3, x3), (4, x4), (5, x5), (8, x8)]) h K =
    bnd (pBin Tryz.prog .neq 30 (.tmp 36) (.const (.int .i64 0)) x8 (.int .i64 0)) fun x37 =>
    K .normal (act 58 [(3, x3), (4, x4), (5, x5), (8, x8), (37, x37)]) h := kq_reg
theorem b71_rrlrrrr  : kCode env 71 false inv k (cp c71 251) (act 58 [(3, x3), (4, x4), (5, x5), (8, x8), (37, x37)]) h K = brV x37 (kCode env 71 false inv k (cp c71 502) (act 58 [(3, x3), (4, x4), (5, x5), (8, x8), (37, x37)]) h K) (kCode env 71 false inv k (cp c71 503) (act 58 [(3, x3), (4, x4), (5, x5), (8, x8), (37, x37)]) h K) := kq_cond
theorem r71_9  : kCode env 71 false inv k (cp c71 1004) (act 58 [(3, x3), (4, x4), (5, x5), (8, x8), (37, x37)]) h K =
    bnd (inv (.func 39) #[] #[x8] h) fun x39 =>
    bnd (kSt (pStore Tryz.prog 34 x4 x39.1 x39.2)) fun u =>
    K .normal (act 58 [(4, x4)]) u.2 := kq_reg
noncomputable abbrev G71_10 {β : Type} (inv : Inv) (x3 x4 x5 : Value) (h : AH) (K : Value → Value → AH → Option β) : Option β :=
    bnd (pFieldAddr Tryz.prog 79 x5 1) fun x41 =>
    bnd (pLoad Tryz.prog 36 x41 h) fun x42 =>
    bnd (pFieldAddr Tryz.prog 40 x3 5) fun x43 =>
    bnd (pLoad Tryz.prog 23 x43 h) fun x44 =>
    bnd (pFieldAddr Tryz.prog 79 x5 2) fun x45 =>
    bnd (pLoad Tryz.prog 31 x45 h) fun x46 =>
    bnd (inv (.func 112) #[] #[x44, x46] h) fun x47 =>
    bnd (pFieldAddr Tryz.prog 40 x3 6) fun x48 =>
    bnd (pLoad Tryz.prog 24 x48 x47.2) fun x49 =>
    bnd (pFieldAddr Tryz.prog 40 x3 7) fun x50 =>
    bnd (pLoad Tryz.prog 38 x50 x47.2) fun x51 =>
    bnd (inv (.func 115) #[] #[x42, x47.1, x49, x51] x47.2) fun x52 =>
    bnd (pExtract x52.1 0) fun x53 =>
    bnd (pExtract x52.1 1) fun x54 =>
    chkK ((!true || !true || (sameO (pLoad Tryz.prog 36 x41 h) x42 && sameO (pLoad Tryz.prog 36 x41 x47.2) x42)) && ((!true || !true || (sameO (pLoad Tryz.prog 24 x48 h) x49 && sameO (pLoad Tryz.prog 24 x48 x47.2) x49)) && ((!true || !true || (sameO (pLoad Tryz.prog 38 x50 h) x51 && sameO (pLoad Tryz.prog 38 x50 x47.2) x51)) && true))) <|
    K (x54) (x53) x52.2
theorem r71_10  : kCode env 71 false inv k (cp c71 126) (act 58 [(3, x3), (4, x4), (5, x5), (8, x8), (37, x37)]) h K =
    G71_10 inv x3 x4 x5 h fun y6 y9 h => K .normal (act 58 [(4, x4), (6, y6), (9, y9)]) h := kq_draw
theorem r71_11  : kCode env 71 false inv k (cp c71 254) (act 58 [(4, x4), (6, x6), (9, x9)]) h K =
    bnd (pBuild Tryz.prog 34 #[(0, x6), (1, x9)]) fun x57 =>
    bnd (kSt (pStore Tryz.prog 34 x4 x57 h)) fun u =>
    K .normal (act 58 [(4, x4)]) u.2 := kq_reg
/-- (*shadowbook/model.Model).agg -/
noncomputable def F71 (inv : Inv) (k : Nat) (x0 x1 : Value) (h : AH) : Option (Value × AH) :=
    bnd (pBox Tryz.prog 40 x1 h) fun x3 =>
    bnd (pAlloc Tryz.prog 34 x3.2) fun x4 =>
    bnd (pLoad Tryz.prog 40 x3.1 x4.2) fun x12 =>
    bnd (inv (.func 109) #[] #[x0, x12] x4.2) fun x13 =>
    bnd (pExtract x13.1 0) fun x14 =>
    bnd (pExtract x13.1 1) fun x15 =>
    bnd (pAlloc Tryz.prog 79 x13.2) fun x5 =>
    bnd (kSt (pStore Tryz.prog 79 x5.1 x14 x5.2)) fun u =>
    bnd (pBin Tryz.prog .neq 30 (.tmp 16) (.const (.int .i64 0)) x15 (.int .i64 0)) fun x17 =>
    brV x17
    (bnd (inv (.func 39) #[] #[x15] u.2) fun x19 =>
    bnd (kSt (pStore Tryz.prog 34 x4.1 x19.1 x19.2)) fun u_1 =>
    bnd (pLoad Tryz.prog 34 x4.1 u_1.2) fun q0 =>
    some (q0, u_1.2))
    (bnd (pFieldAddr Tryz.prog 79 x5.1 1) fun x20 =>
    bnd (pLoad Tryz.prog 36 x20 u.2) fun x21 =>
    bnd (pFieldAddr Tryz.prog 40 x3.1 6) fun x22 =>
    bnd (pLoad Tryz.prog 24 x22 u.2) fun x23 =>
    bnd (pFieldAddr Tryz.prog 40 x3.1 7) fun x24 =>
    bnd (pLoad Tryz.prog 38 x24 u.2) fun x25 =>
    bnd (inv (.func 114) #[] #[x21, x23, x25] u.2) fun x26 =>
    bnd (pBin Tryz.prog .neq 30 (.tmp 27) (.const (.int .i64 0)) x26.1 (.int .i64 0)) fun x28 =>
    brV x28
    (bnd (inv (.func 39) #[] #[x26.1] x26.2) fun x30 =>
    bnd (kSt (pStore Tryz.prog 34 x4.1 x30.1 x30.2)) fun u_2 =>
    bnd (pLoad Tryz.prog 34 x4.1 u_2.2) fun q0 =>
    some (q0, u_2.2))
    (bnd (pFieldAddr Tryz.prog 79 x5.1 1) fun x31 =>
    bnd (pLoad Tryz.prog 36 x31 x26.2) fun x32 =>
    bnd (pFieldAddr Tryz.prog 40 x3.1 5) fun x33 =>
    bnd (pLoad Tryz.prog 23 x33 x26.2) fun x34 =>
    bnd (inv (.func 111) #[] #[x32, x34] x26.2) fun x35 =>
    bnd (pBin Tryz.prog .neq 30 (.tmp 36) (.const (.int .i64 0)) x35.1 (.int .i64 0)) fun x37 =>
    brV x37
    (bnd (inv (.func 39) #[] #[x35.1] x35.2) fun x39 =>
    bnd (kSt (pStore Tryz.prog 34 x4.1 x39.1 x39.2)) fun u_3 =>
    bnd (pLoad Tryz.prog 34 x4.1 u_3.2) fun q0 =>
    some (q0, u_3.2))
    (G71_10 inv x3.1 x4.1 x5.1 x35.2 fun y6 y9 h =>
    bnd (pBuild Tryz.prog 34 #[(0, y6), (1, y9)]) fun x57 =>
    bnd (kSt (pStore Tryz.prog 34 x4.1 x57 h)) fun u_4 =>
    bnd (pLoad Tryz.prog 34 x4.1 u_4.2) fun q0 =>
    some (q0, u_4.2))))
theorem F71_eq : eFun env k inv 71 #[x0, x1] h = F71 inv k x0 x1 h := by
      refine (kq_fun (a := act 58 [(0, x0), (1, x1)]) (c := cp c71 1)).trans ?_
      unfold F71
      simp only [kq_seq c71 1, r71_0, kq_seq c71 3, r71_1, kq_seq c71 7, kq_seq c71 14, r71_2, b71_rlrr, kq_seq c71 58, r71_3, kq_ret c71 117, res71_0, kq_skip c71 59, kq_seq c71 15, kq_seq c71 30, r71_4, kq_seq c71 61, r71_5, b71_rrlrrr, kq_seq c71 246, r71_6, kq_ret c71 493, kq_skip c71 247, kq_seq c71 31, kq_seq c71 62, r71_7, kq_seq c71 125, r71_8, b71_rrlrrrr, kq_seq c71 502, r71_9, kq_ret c71 1005, kq_skip c71 503, kq_seq c71 63, r71_10, kq_seq c71 127, r71_11, kq_ret c71 255, reduceIte, reduceCtorEq, XE.exit.injEq, Nat.reduceEqDiff, Nat.reduceMul, Nat.reduceAdd] <;> kernel_rfl
theorem F71_call : eInv env (k + 1) (.func 71) #[] #[x0, x1] h = F71 (eInv env k) k x0 x1 h := kq_inv F71_eq
noncomputable def c72 : Code := codeOf Tryz.prog 72
theorem r72_0  : kCode env 72 false inv k (cp c72 2) (act 13 [(0, x0), (1, x1)]) h K =
    bnd (pBox Tryz.prog 40 x1 h) fun x3 =>
    bnd (pAlloc Tryz.prog 34 x3.2) fun x4 =>
    K .normal (act 13 [(0, x0), (4, x4.1)]) x4.2 := kq_reg
theorem r72_1  : kCode env 72 false inv k (cp c72 6) (act 13 [(0, x0), (4, x4)]) h K =
    bnd (pNilCheck Tryz.prog x0) fun x7 =>
    bnd (pFieldAddr Tryz.prog 85 x7 0) fun x8 =>
    bnd (pLoad Tryz.prog 58 x8 h) fun x9 =>
    bnd (pNilCheck Tryz.prog x0) fun x10 =>
    bnd (pFieldAddr Tryz.prog 85 x10 1) fun x11 =>
    bnd (kSt (pStore Tryz.prog 58 x11 x9 h)) fun u =>
    K .normal (act 13 [(4, x4)]) u.2 := kq_reg
theorem r72_2  : kCode env 72 false inv k (cp c72 14) (act 13 [(4, x4)]) h K =
    bnd (pBuild Tryz.prog 34 #[]) fun x12 =>
    bnd (kSt (pStore Tryz.prog 34 x4 x12 h)) fun u =>
    K .normal (act 13 [(4, x4)]) u.2 := kq_reg
theorem res72_0 : resOfFn env.P 72 .ret (act 13 [(4, x4)]) h = bnd (pLoad Tryz.prog 34 x4 h) fun q0 =>
    some (q0, h) := kq_res
/-- (*shadowbook/model.Model).commit -/
noncomputable def F72 (inv : Inv) (k : Nat) (x0 x1 : Value) (h : AH) : Option (Value × AH) :=
    bnd (pBox Tryz.prog 40 x1 h) fun x3 =>
    bnd (pAlloc Tryz.prog 34 x3.2) fun x4 =>
    bnd (pNilCheck Tryz.prog x0) fun x7 =>
    bnd (pFieldAddr Tryz.prog 85 x7 0) fun x8 =>
    bnd (pLoad Tryz.prog 58 x8 x4.2) fun x9 =>
    bnd (pNilCheck Tryz.prog x0) fun x10 =>
    bnd (pFieldAddr Tryz.prog 85 x10 1) fun x11 =>
    bnd (kSt (pStore Tryz.prog 58 x11 x9 x4.2)) fun u =>
    bnd (pBuild Tryz.prog 34 #[]) fun x12 =>
    bnd (kSt (pStore Tryz.prog 34 x4.1 x12 u.2)) fun u_1 =>
    bnd (pLoad Tryz.prog 34 x4.1 u_1.2) fun q0 =>
    some (q0, u_1.2)
theorem F72_eq : eFun env k inv 72 #[x0, x1] h = F72 inv k x0 x1 h := by
      refine (kq_fun (a := act 13 [(0, x0), (1, x1)]) (c := cp c72 1)).trans ?_
      unfold F72
      simp only [kq_seq c72 1, r72_0, kq_seq c72 3, r72_1, kq_seq c72 7, r72_2, kq_ret c72 15, res72_0, reduceIte, reduceCtorEq, XE.exit.injEq, Nat.reduceEqDiff, Nat.reduceMul, Nat.reduceAdd] <;> kernel_rfl
theorem F72_call : eInv env (k + 1) (.func 72) #[] #[x0, x1] h = F72 (eInv env k) k x0 x1 h := kq_inv F72_eq
noncomputable def c73 : Code := codeOf Tryz.prog 73
theorem r73_0  : kCode env 73 false inv k (cp c73 2) (act 13 [(0, x0), (1, x1)]) h K =
    bnd (pBox Tryz.prog 40 x1 h) fun x3 =>
    bnd (pAlloc Tryz.prog 34 x3.2) fun x4 =>
    K .normal (act 13 [(0, x0), (4, x4.1)]) x4.2 := kq_reg
theorem r73_1  : kCode env 73 false inv k (cp c73 6) (act 13 [(0, x0), (4, x4)]) h K =
    bnd (pNilCheck Tryz.prog x0) fun x7 =>
    bnd (pFieldAddr Tryz.prog 85 x7 1) fun x8 =>
    bnd (pLoad Tryz.prog 58 x8 h) fun x9 =>
    bnd (pNilCheck Tryz.prog x0) fun x10 =>
    bnd (pFieldAddr Tryz.prog 85 x10 0) fun x11 =>
    bnd (kSt (pStore Tryz.prog 58 x11 x9 h)) fun u =>
    K .normal (act 13 [(4, x4)]) u.2 := kq_reg
theorem r73_2  : kCode env 73 false inv k (cp c73 14) (act 13 [(4, x4)]) h K =
    bnd (pBuild Tryz.prog 34 #[]) fun x12 =>
    bnd (kSt (pStore Tryz.prog 34 x4 x12 h)) fun u =>
    K .normal (act 13 [(4, x4)]) u.2 := kq_reg
theorem res73_0 : resOfFn env.P 73 .ret (act 13 [(4, x4)]) h = bnd (pLoad Tryz.prog 34 x4 h) fun q0 =>
    some (q0, h) := kq_res
/-- (*shadowbook/model.Model).abort -/
noncomputable def F73 (inv : Inv) (k : Nat) (x0 x1 : Value) (h : AH) : Option (Value × AH) :=
    bnd (pBox Tryz.prog 40 x1 h) fun x3 =>
    bnd (pAlloc Tryz.prog 34 x3.2) fun x4 =>
    bnd (pNilCheck Tryz.prog x0) fun x7 =>
    bnd (pFieldAddr Tryz.prog 85 x7 1) fun x8 =>
    bnd (pLoad Tryz.prog 58 x8 x4.2) fun x9 =>
    bnd (pNilCheck Tryz.prog x0) fun x10 =>
    bnd (pFieldAddr Tryz.prog 85 x10 0) fun x11 =>
    bnd (kSt (pStore Tryz.prog 58 x11 x9 x4.2)) fun u =>
    bnd (pBuild Tryz.prog 34 #[]) fun x12 =>
    bnd (kSt (pStore Tryz.prog 34 x4.1 x12 u.2)) fun u_1 =>
    bnd (pLoad Tryz.prog 34 x4.1 u_1.2) fun q0 =>
    some (q0, u_1.2)
theorem F73_eq : eFun env k inv 73 #[x0, x1] h = F73 inv k x0 x1 h := by
      refine (kq_fun (a := act 13 [(0, x0), (1, x1)]) (c := cp c73 1)).trans ?_
      unfold F73
      simp only [kq_seq c73 1, r73_0, kq_seq c73 3, r73_1, kq_seq c73 7, r73_2, kq_ret c73 15, res73_0, reduceIte, reduceCtorEq, XE.exit.injEq, Nat.reduceEqDiff, Nat.reduceMul, Nat.reduceAdd] <;> kernel_rfl
theorem F73_call : eInv env (k + 1) (.func 73) #[] #[x0, x1] h = F73 (eInv env k) k x0 x1 h := kq_inv F73_eq
noncomputable def c74 : Code := codeOf Tryz.prog 74
theorem r74_0  : kCode env 74 false inv k (cp c74 2) (act 62 [(0, x0), (1, x1)]) h K =
    bnd (pBox Tryz.prog 40 x1 h) fun x3 =>
    bnd (pAlloc Tryz.prog 34 x3.2) fun x4 =>
    K .normal (act 62 [(0, x0), (3, x3.1), (4, x4.1)]) x4.2 := kq_reg
theorem r74_1  : kCode env 74 false inv k (cp c74 12) (act 62 [(0, x0), (3, x3), (4, x4)]) h K =
    bnd (pFieldAddr Tryz.prog 40 x3 2) fun x8 =>
    bnd (pLoad Tryz.prog 9 x8 h) fun x9 =>
    bnd (inv (.func 102) #[] #[x9] h) fun x10 =>
    K .normal (act 62 [(0, x0), (3, x3), (4, x4), (5, x10.1)]) x10.2 := kq_reg
theorem r74_2  : kCode env 74 false inv k (cp c74 26) (act 62 [(0, x0), (3, x3), (4, x4), (5, x5)]) h K =
    bnd (pBin Tryz.prog .neq 30 (.tmp 11) (.const (.int .i64 0)) x5 (.int .i64 0)) fun x12 =>
    K .normal (act 62 [(0, x0), (3, x3), (4, x4), (5, x5), (12, x12)]) h := kq_reg
theorem b74_rrlr  : kCode env 74 false inv k (cp c74 27) (act 62 [(0, x0), (3, x3), (4, x4), (5, x5), (12, x12)]) h K = brV x12 (kCode env 74 false inv k (cp c74 54) (act 62 [(0, x0), (3, x3), (4, x4), (5, x5), (12, x12)]) h K) (kCode env 74 false inv k (cp c74 55) (act 62 [(0, x0), (3, x3), (4, x4), (5, x5), (12, x12)]) h K) := kq_cond
theorem r74_3  : kCode env 74 false inv k (cp c74 108) (act 62 [(0, x0), (3, x3), (4, x4), (5, x5), (12, x12)]) h K =
    bnd (inv (.func 39) #[] #[x5] h) fun x14 =>
    bnd (kSt (pStore Tryz.prog 34 x4 x14.1 x14.2)) fun u =>
    K .normal (act 62 [(4, x4)]) u.2 := kq_reg
theorem res74_0 : resOfFn env.P 74 .ret (act 62 [(4, x4)]) h = bnd (pLoad Tryz.prog 34 x4 h) fun q0 =>
    some (q0, h) := kq_res
theorem r74_4  : kCode env 74 false inv k (cp c74 14) (act 62 [(0, x0), (3, x3), (4, x4), (5, x5), (12, x12)]) h K =
    bnd (pNilCheck Tryz.prog x0) fun x17 =>
    bnd (pFieldAddr Tryz.prog 85 x17 0) fun x18 =>
    bnd (pFieldAddr Tryz.prog 58 x18 1) fun x19 =>
    bnd (pLoad Tryz.prog 56 x19 h) fun x20 =>
    bnd (pFieldAddr Tryz.prog 40 x3 2) fun x21 =>
    bnd (pLoad Tryz.prog 9 x21 h) fun x22 =>
    bnd (inv (.func 116) #[] #[x20, x22, (.func (.func 117) #[] #[])] h) fun x23 =>
    bnd (pExtract x23.1 0) fun x24 =>
    bnd (pExtract x23.1 1) fun x25 =>
    K .normal (act 62 [(0, x0), (3, x3), (4, x4), (6, x24), (7, x25)]) x23.2 := kq_draw
theorem r74_5  : kCode env 74 false inv k (cp c74 120) (act 62 [(0, x0), (3, x3), (4, x4), (6, x6), (7, x7)]) h K =
    K .normal (act 62 [(0, x0), (3, x3), (4, x4), (6, x6), (26, x7)]) h := kq_reg
theorem b74_rllrrr  : kCode env 74 false inv k (cp c74 121) (act 62 [(0, x0), (3, x3), (4, x4), (6, x6), (26, x26)]) h K = brV x26 (kCode env 74 false inv k (cp c74 242) (act 62 [(0, x0), (3, x3), (4, x4), (6, x6), (26, x26)]) h K) (kCode env 74 false inv k (cp c74 243) (act 62 [(0, x0), (3, x3), (4, x4), (6, x6), (26, x26)]) h K) := kq_cond
theorem r74_6  : kCode env 74 false inv k (cp c74 484) (act 62 [(0, x0), (3, x3), (4, x4), (6, x6), (26, x26)]) h K =
    bnd (inv (.func 39) #[] #[(.int .i64 6)] h) fun x28 =>
    bnd (kSt (pStore Tryz.prog 34 x4 x28.1 x28.2)) fun u =>
    K .normal (act 62 [(4, x4)]) u.2 := kq_reg
theorem r74_7  : kCode env 74 false inv k (cp c74 486) (act 62 [(0, x0), (3, x3), (4, x4), (6, x6), (26, x26)]) h K =
    bnd (pNilCheck Tryz.prog x0) fun x31 =>
    bnd (pFieldAddr Tryz.prog 85 x31 0) fun x32 =>
    bnd (pFieldAddr Tryz.prog 58 x32 1) fun x33 =>
    bnd (pLoad Tryz.prog 56 x33 h) fun x34 =>
    bnd (pLen Tryz.prog #[56] x34 h) fun x35 =>
    bnd (pBin Tryz.prog .geq 3 (.tmp 35) (.const (.int .i64 16)) x35 (.int .i64 16)) fun x36 =>
    K .normal (act 62 [(0, x0), (3, x3), (4, x4), (6, x6), (29, x36)]) h := kq_reg
theorem b74_rrrllrrr  : kCode env 74 false inv k (cp c74 487) (act 62 [(0, x0), (3, x3), (4, x4), (6, x6), (29, x29)]) h K = brV x29 (kCode env 74 false inv k (cp c74 974) (act 62 [(0, x0), (3, x3), (4, x4), (6, x6), (29, x29)]) h K) (kCode env 74 false inv k (cp c74 975) (act 62 [(0, x0), (3, x3), (4, x4), (6, x6), (29, x29)]) h K) := kq_cond
theorem r74_8  : kCode env 74 false inv k (cp c74 1948) (act 62 [(0, x0), (3, x3), (4, x4), (6, x6), (29, x29)]) h K =
    bnd (inv (.func 39) #[] #[(.int .i64 12)] h) fun x37 =>
    bnd (kSt (pStore Tryz.prog 34 x4 x37.1 x37.2)) fun u =>
    K .normal (act 62 [(4, x4)]) u.2 := kq_reg
noncomputable abbrev G74_9 {β : Type} (inv : Inv) (x0 x3 x4 x6 : Value) (h : AH) (K : AH → Option β) : Option β :=
    bnd (pNilCheck Tryz.prog x0) fun x40 =>
    bnd (pFieldAddr Tryz.prog 85 x40 0) fun x41 =>
    bnd (pFieldAddr Tryz.prog 58 x41 1) fun x42 =>
    bnd (pLoad Tryz.prog 56 x42 h) fun x43 =>
    bnd (pFieldAddr Tryz.prog 40 x3 2) fun x46 =>
    bnd (pLoad Tryz.prog 9 x46 h) fun x47 =>
    bnd (pNilCheck Tryz.prog x0) fun x49 =>
    bnd (pFieldAddr Tryz.prog 85 x49 0) fun x50 =>
    bnd (pFieldAddr Tryz.prog 58 x50 0) fun x51 =>
    bnd (pLoad Tryz.prog 55 x51 h) fun x52 =>
    bnd (pBuild Tryz.prog 81 #[(0, x47), (1, x52)]) fun x53 =>
    bnd (pBuildSlice Tryz.prog 56 1 #[(0, x53)] h) fun x54 =>
    bnd (inv (.func 118) #[] #[x43, x6, x6, x54.1] x54.2) fun x55 =>
    bnd (pNilCheck Tryz.prog x0) fun x56 =>
    bnd (pFieldAddr Tryz.prog 85 x56 0) fun x57 =>
    bnd (pFieldAddr Tryz.prog 58 x57 1) fun x58 =>
    bnd (kSt (pStore Tryz.prog 56 x58 x55.1 x55.2)) fun u =>
    chkK ((!true || !true || (sameO (pLoad Tryz.prog 56 x42 h) x43 && sameO (pLoad Tryz.prog 56 x42 x54.2) x43)) && true) <|
    K u.2
theorem r74_9  : kCode env 74 false inv k (cp c74 62) (act 62 [(0, x0), (3, x3), (4, x4), (6, x6), (29, x29)]) h K =
    G74_9 inv x0 x3 x4 x6 h fun  h => K .normal (act 62 [(0, x0), (3, x3), (4, x4)]) h := kq_draw
theorem r74_10  : kCode env 74 false inv k (cp c74 126) (act 62 [(0, x0), (3, x3), (4, x4)]) h K =
    bnd (pLoad Tryz.prog 40 x3 h) fun x60 =>
    bnd (inv (.func 72) #[] #[x0, x60] h) fun x61 =>
    bnd (kSt (pStore Tryz.prog 34 x4 x61.1 x61.2)) fun u =>
    K .normal (act 62 [(4, x4)]) u.2 := kq_reg
/-- (*shadowbook/model.Model).snap -/
noncomputable def F74 (inv : Inv) (k : Nat) (x0 x1 : Value) (h : AH) : Option (Value × AH) :=
    bnd (pBox Tryz.prog 40 x1 h) fun x3 =>
    bnd (pAlloc Tryz.prog 34 x3.2) fun x4 =>
    bnd (pFieldAddr Tryz.prog 40 x3.1 2) fun x8 =>
    bnd (pLoad Tryz.prog 9 x8 x4.2) fun x9 =>
    bnd (inv (.func 102) #[] #[x9] x4.2) fun x10 =>
    bnd (pBin Tryz.prog .neq 30 (.tmp 11) (.const (.int .i64 0)) x10.1 (.int .i64 0)) fun x12 =>
    brV x12
    (bnd (inv (.func 39) #[] #[x10.1] x10.2) fun x14 =>
    bnd (kSt (pStore Tryz.prog 34 x4.1 x14.1 x14.2)) fun u =>
    bnd (pLoad Tryz.prog 34 x4.1 u.2) fun q0 =>
    some (q0, u.2))
    (bnd (pNilCheck Tryz.prog x0) fun x17 =>
    bnd (pFieldAddr Tryz.prog 85 x17 0) fun x18 =>
    bnd (pFieldAddr Tryz.prog 58 x18 1) fun x19 =>
    bnd (pLoad Tryz.prog 56 x19 x10.2) fun x20 =>
    bnd (pFieldAddr Tryz.prog 40 x3.1 2) fun x21 =>
    bnd (pLoad Tryz.prog 9 x21 x10.2) fun x22 =>
    bnd (inv (.func 116) #[] #[x20, x22, (.func (.func 117) #[] #[])] x10.2) fun x23 =>
    bnd (pExtract x23.1 0) fun x24 =>
    bnd (pExtract x23.1 1) fun x25 =>
    brV x25
    (bnd (inv (.func 39) #[] #[(.int .i64 6)] x23.2) fun x28 =>
    bnd (kSt (pStore Tryz.prog 34 x4.1 x28.1 x28.2)) fun u_1 =>
    bnd (pLoad Tryz.prog 34 x4.1 u_1.2) fun q0 =>
    some (q0, u_1.2))
    (bnd (pNilCheck Tryz.prog x0) fun x31 =>
    bnd (pFieldAddr Tryz.prog 85 x31 0) fun x32 =>
    bnd (pFieldAddr Tryz.prog 58 x32 1) fun x33 =>
    bnd (pLoad Tryz.prog 56 x33 x23.2) fun x34 =>
    bnd (pLen Tryz.prog #[56] x34 x23.2) fun x35 =>
    bnd (pBin Tryz.prog .geq 3 (.tmp 35) (.const (.int .i64 16)) x35 (.int .i64 16)) fun x36 =>
    brV x36
    (bnd (inv (.func 39) #[] #[(.int .i64 12)] x23.2) fun x37 =>
    bnd (kSt (pStore Tryz.prog 34 x4.1 x37.1 x37.2)) fun u_2 =>
    bnd (pLoad Tryz.prog 34 x4.1 u_2.2) fun q0 =>
    some (q0, u_2.2))
    (G74_9 inv x0 x3.1 x4.1 x24 x23.2 fun  h =>
    bnd (pLoad Tryz.prog 40 x3.1 h) fun x60 =>
    bnd (inv (.func 72) #[] #[x0, x60] h) fun x61 =>
    bnd (kSt (pStore Tryz.prog 34 x4.1 x61.1 x61.2)) fun u_3 =>
    bnd (pLoad Tryz.prog 34 x4.1 u_3.2) fun q0 =>
    some (q0, u_3.2))))
theorem F74_eq : eFun env k inv 74 #[x0, x1] h = F74 inv k x0 x1 h := by
      refine (kq_fun (a := act 62 [(0, x0), (1, x1)]) (c := cp c74 1)).trans ?_
      unfold F74
      simp only [kq_seq c74 1, r74_0, kq_seq c74 3, kq_seq c74 6, r74_1, kq_seq c74 13, r74_2, b74_rrlr, kq_seq c74 54, r74_3, kq_ret c74 109, res74_0, kq_skip c74 55, kq_seq c74 7, r74_4, kq_seq c74 15, kq_block c74 30 0, kq_seq c74 60, r74_5, b74_rllrrr, kq_seq c74 242, r74_6, kq_ret c74 485, kq_seq c74 243, r74_7, b74_rrrllrrr, kq_seq c74 974, r74_8, kq_ret c74 1949, kq_skip c74 975, kq_seq c74 31, r74_9, kq_seq c74 63, r74_10, kq_ret c74 127, reduceIte, reduceCtorEq, XE.exit.injEq, Nat.reduceEqDiff, Nat.reduceMul, Nat.reduceAdd] <;> kernel_rfl
theorem F74_call : eInv env (k + 1) (.func 74) #[] #[x0, x1] h = F74 (eInv env k) k x0 x1 h := kq_inv F74_eq
noncomputable def c75 : Code := codeOf Tryz.prog 75
theorem r75_0  : kCode env 75 false inv k (cp c75 2) (act 37 [(0, x0), (1, x1)]) h K =
    bnd (pBox Tryz.prog 40 x1 h) fun x3 =>
    bnd (pAlloc Tryz.prog 34 x3.2) fun x4 =>
    K .normal (act 37 [(0, x0), (3, x3.1), (4, x4.1)]) x4.2 := kq_reg
theorem r75_1  : kCode env 75 false inv k (cp c75 6) (act 37 [(0, x0), (3, x3), (4, x4)]) h K =
    bnd (pNilCheck Tryz.prog x0) fun x9 =>
    bnd (pFieldAddr Tryz.prog 85 x9 0) fun x10 =>
    bnd (pFieldAddr Tryz.prog 58 x10 1) fun x11 =>
    bnd (pLoad Tryz.prog 56 x11 h) fun x12 =>
    bnd (pFieldAddr Tryz.prog 40 x3 2) fun x13 =>
    bnd (pLoad Tryz.prog 9 x13 h) fun x14 =>
    bnd (inv (.func 116) #[] #[x12, x14, (.func (.func 117) #[] #[])] h) fun x15 =>
    bnd (pExtract x15.1 0) fun x16 =>
    bnd (pExtract x15.1 1) fun x17 =>
    K .normal (act 37 [(0, x0), (3, x3), (4, x4), (5, x16), (6, x17)]) x15.2 := kq_draw
theorem r75_2  : kCode env 75 false inv k (cp c75 28) (act 37 [(0, x0), (3, x3), (4, x4), (5, x5), (6, x6)]) h K =
    bnd (pUn Tryz.prog .not x6) fun x19 =>
    K .normal (act 37 [(0, x0), (3, x3), (4, x4), (5, x5), (19, x19)]) h := kq_reg
theorem b75_rlrr  : kCode env 75 false inv k (cp c75 29) (act 37 [(0, x0), (3, x3), (4, x4), (5, x5), (19, x19)]) h K = brV x19 (kCode env 75 false inv k (cp c75 58) (act 37 [(0, x0), (3, x3), (4, x4), (5, x5), (19, x19)]) h K) (kCode env 75 false inv k (cp c75 59) (act 37 [(0, x0), (3, x3), (4, x4), (5, x5), (19, x19)]) h K) := kq_cond
theorem r75_3  : kCode env 75 false inv k (cp c75 116) (act 37 [(0, x0), (3, x3), (4, x4), (5, x5), (19, x19)]) h K =
    bnd (inv (.func 39) #[] #[(.int .i64 211)] h) fun x20 =>
    bnd (kSt (pStore Tryz.prog 34 x4 x20.1 x20.2)) fun u =>
    K .normal (act 37 [(4, x4)]) u.2 := kq_reg
theorem res75_0 : resOfFn env.P 75 .ret (act 37 [(4, x4)]) h = bnd (pLoad Tryz.prog 34 x4 h) fun q0 =>
    some (q0, h) := kq_res
noncomputable abbrev G75_4 {β : Type} (inv : Inv) (x0 x3 x4 x5 : Value) (h : AH) (K : AH → Option β) : Option β :=
    bnd (pNilCheck Tryz.prog x0) fun x23 =>
    bnd (pFieldAddr Tryz.prog 85 x23 0) fun x24 =>
    bnd (pFieldAddr Tryz.prog 58 x24 1) fun x25 =>
    bnd (pLoad Tryz.prog 56 x25 h) fun x26 =>
    bnd (pBin Tryz.prog .add 3 (.tmp 28) (.const (.int .i64 1)) x5 (.int .i64 1)) fun x29 =>
    bnd (inv (.func 118) #[] #[x26, x5, x29, (.slice none 0 0)] h) fun x30 =>
    bnd (pNilCheck Tryz.prog x0) fun x31 =>
    bnd (pFieldAddr Tryz.prog 85 x31 0) fun x32 =>
    bnd (pFieldAddr Tryz.prog 58 x32 1) fun x33 =>
    bnd (kSt (pStore Tryz.prog 56 x33 x30.1 x30.2)) fun u =>
    K u.2
theorem r75_4  : kCode env 75 false inv k (cp c75 30) (act 37 [(0, x0), (3, x3), (4, x4), (5, x5), (19, x19)]) h K =
    G75_4 inv x0 x3 x4 x5 h fun  h => K .normal (act 37 [(0, x0), (3, x3), (4, x4)]) h := kq_reg
theorem r75_5  : kCode env 75 false inv k (cp c75 62) (act 37 [(0, x0), (3, x3), (4, x4)]) h K =
    bnd (pLoad Tryz.prog 40 x3 h) fun x35 =>
    bnd (inv (.func 72) #[] #[x0, x35] h) fun x36 =>
    bnd (kSt (pStore Tryz.prog 34 x4 x36.1 x36.2)) fun u =>
    K .normal (act 37 [(4, x4)]) u.2 := kq_reg
/-- (*shadowbook/model.Model).unsnap -/
noncomputable def F75 (inv : Inv) (k : Nat) (x0 x1 : Value) (h : AH) : Option (Value × AH) :=
    bnd (pBox Tryz.prog 40 x1 h) fun x3 =>
    bnd (pAlloc Tryz.prog 34 x3.2) fun x4 =>
    bnd (pNilCheck Tryz.prog x0) fun x9 =>
    bnd (pFieldAddr Tryz.prog 85 x9 0) fun x10 =>
    bnd (pFieldAddr Tryz.prog 58 x10 1) fun x11 =>
    bnd (pLoad Tryz.prog 56 x11 x4.2) fun x12 =>
    bnd (pFieldAddr Tryz.prog 40 x3.1 2) fun x13 =>
    bnd (pLoad Tryz.prog 9 x13 x4.2) fun x14 =>
    bnd (inv (.func 116) #[] #[x12, x14, (.func (.func 117) #[] #[])] x4.2) fun x15 =>
    bnd (pExtract x15.1 0) fun x16 =>
    bnd (pExtract x15.1 1) fun x17 =>
    bnd (pUn Tryz.prog .not x17) fun x19 =>
    brV x19
    (bnd (inv (.func 39) #[] #[(.int .i64 211)] x15.2) fun x20 =>
    bnd (kSt (pStore Tryz.prog 34 x4.1 x20.1 x20.2)) fun u =>
    bnd (pLoad Tryz.prog 34 x4.1 u.2) fun q0 =>
    some (q0, u.2))
    (G75_4 inv x0 x3.1 x4.1 x16 x15.2 fun  h =>
    bnd (pLoad Tryz.prog 40 x3.1 h) fun x35 =>
    bnd (inv (.func 72) #[] #[x0, x35] h) fun x36 =>
    bnd (kSt (pStore Tryz.prog 34 x4.1 x36.1 x36.2)) fun u_1 =>
    bnd (pLoad Tryz.prog 34 x4.1 u_1.2) fun q0 =>
    some (q0, u_1.2))
theorem F75_eq : eFun env k inv 75 #[x0, x1] h = F75 inv k x0 x1 h := by
      refine (kq_fun (a := act 37 [(0, x0), (1, x1)]) (c := cp c75 1)).trans ?_
      unfold F75
      simp only [kq_seq c75 1, r75_0, kq_seq c75 3, r75_1, kq_seq c75 7, kq_seq c75 14, r75_2, b75_rlrr, kq_seq c75 58, r75_3, kq_ret c75 117, res75_0, kq_skip c75 59, kq_seq c75 15, r75_4, kq_seq c75 31, r75_5, kq_ret c75 63, reduceIte, reduceCtorEq, XE.exit.injEq, Nat.reduceEqDiff, Nat.reduceMul, Nat.reduceAdd] <;> kernel_rfl
theorem F75_call : eInv env (k + 1) (.func 75) #[] #[x0, x1] h = F75 (eInv env k) k x0 x1 h := kq_inv F75_eq
noncomputable def c76 : Code := codeOf Tryz.prog 76
theorem r76_0  : kCode env 76 false inv k (cp c76 2) (act 33 [(0, x0), (1, x1)]) h K =
    bnd (pBox Tryz.prog 40 x1 h) fun x3 =>
    bnd (pAlloc Tryz.prog 34 x3.2) fun x4 =>
    K .normal (act 33 [(0, x0), (3, x3.1), (4, x4.1)]) x4.2 := kq_reg
theorem r76_1  : kCode env 76 false inv k (cp c76 6) (act 33 [(0, x0), (3, x3), (4, x4)]) h K =
    bnd (pFieldAddr Tryz.prog 40 x3 2) fun x11 =>
    bnd (pLoad Tryz.prog 9 x11 h) fun x12 =>
    bnd (inv (.func 119) #[] #[x0, x12] h) fun x13 =>
    bnd (pExtract x13.1 0) fun x14 =>
    bnd (pExtract x13.1 1) fun x15 =>
    K .normal (act 33 [(4, x4), (5, x14), (6, x15)]) x13.2 := kq_reg
theorem r76_2  : kCode env 76 false inv k (cp c76 28) (act 33 [(4, x4), (5, x5), (6, x6)]) h K =
    bnd (pLen Tryz.prog #[55] x5 h) fun x17 =>
    K .normal (act 33 [(4, x4), (6, x6), (16, x5), (17, x17), (18, (.int .i64 0))]) h := kq_reg
theorem r76_3  : kCode env 76 false inv k (cp c76 232) (act 33 [(4, x4), (6, x6), (16, x16), (17, x17), (18, x18)]) h K =
    bnd (pBin Tryz.prog .lss 3 (.tmp 18) (.tmp 17) x18 x17) fun x19 =>
    K .normal (act 33 [(4, x4), (6, x6), (16, x16), (17, x17), (18, x18), (19, x19)]) h := kq_reg
theorem b76_lrllrlrr  : kCode env 76 false inv k (cp c76 466) (act 33 [(4, x4), (6, x6), (16, x16), (17, x17), (18, x18), (19, x19)]) h K = brV x19 (kCode env 76 false inv k (cp c76 932) (act 33 [(4, x4), (6, x6), (16, x16), (17, x17), (18, x18), (19, x19)]) h K) (kCode env 76 false inv k (cp c76 933) (act 33 [(4, x4), (6, x6), (16, x16), (17, x17), (18, x18), (19, x19)]) h K) := kq_cond
theorem r76_4  : kCode env 76 false inv k (cp c76 3736) (act 33 [(4, x4), (6, x6), (16, x16), (17, x17), (18, x18), (19, x19)]) h K =
    bnd (pIndexAddr Tryz.prog 55 x16 x18) fun x20 =>
    bnd (pLoad Tryz.prog 79 x20 h) fun x21 =>
    bnd (pAlloc Tryz.prog 79 h) fun x8 =>
    bnd (kSt (pStore Tryz.prog 79 x8.1 x21 x8.2)) fun u =>
    K .normal (act 33 [(4, x4), (6, x6), (8, x8.1), (16, x16), (17, x17), (18, x18)]) u.2 := kq_reg
theorem r76_5  : kCode env 76 false inv k (cp c76 3737) (act 33 [(4, x4), (6, x6), (8, x8), (16, x16), (17, x17), (18, x18)]) h K =
    bnd (pFieldAddr Tryz.prog 34 x4 2) fun x22 =>
    bnd (pLoad Tryz.prog 32 x22 h) fun x23 =>
    bnd (pFieldAddr Tryz.prog 79 x8 0) fun x24 =>
    bnd (pLoad Tryz.prog 9 x24 h) fun x25 =>
    bnd (pBuildSlice Tryz.prog 32 1 #[(0, x25)] h) fun x26 =>
    bnd (pAppend Tryz.prog #[32, 32] x23 x26.1 x26.2) fun x27 =>
    bnd (pFieldAddr Tryz.prog 34 x4 2) fun x28 =>
    bnd (kSt (pStore Tryz.prog 32 x28 x27.1 x27.2)) fun u =>
    K .normal (act 33 [(4, x4), (6, x6), (16, x16), (17, x17), (18, x18)]) u.2 := kq_reg
theorem r76_6  : kCode env 76 false inv k (cp c76 935) (act 33 [(4, x4), (6, x6), (16, x16), (17, x17), (18, x18)]) h K =
    bnd (pBin Tryz.prog .add 3 (.tmp 18) (.const (.int .i64 1)) x18 (.int .i64 1)) fun x29 =>
    K .normal (act 33 [(4, x4), (6, x6), (16, x16), (17, x17), (18, x29)]) h := kq_reg
noncomputable def F76_lrlrr {β : Type} (inv : Inv) (k : Nat) : Nat → Value → Value → Value → Value → Value → AH → (Value → Value → Value → Value → Value → Value → AH → Option β) → Option β
  | 0, _, _, _, _, _, _, _ => none
  | j + 1, x4, x6, x16, x17, x18, h, ke0 =>
    bnd (pBin Tryz.prog .lss 3 (.tmp 18) (.tmp 17) x18 x17) fun x19 =>
    brV x19
    (bnd (pIndexAddr Tryz.prog 55 x16 x18) fun x20 =>
    bnd (pLoad Tryz.prog 79 x20 h) fun x21 =>
    bnd (pAlloc Tryz.prog 79 h) fun x8 =>
    bnd (kSt (pStore Tryz.prog 79 x8.1 x21 x8.2)) fun u =>
    bnd (pFieldAddr Tryz.prog 34 x4 2) fun x22 =>
    bnd (pLoad Tryz.prog 32 x22 u.2) fun x23 =>
    bnd (pFieldAddr Tryz.prog 79 x8.1 0) fun x24 =>
    bnd (pLoad Tryz.prog 9 x24 u.2) fun x25 =>
    bnd (pBuildSlice Tryz.prog 32 1 #[(0, x25)] u.2) fun x26 =>
    bnd (pAppend Tryz.prog #[32, 32] x23 x26.1 x26.2) fun x27 =>
    bnd (pFieldAddr Tryz.prog 34 x4 2) fun x28 =>
    bnd (kSt (pStore Tryz.prog 32 x28 x27.1 x27.2)) fun u_1 =>
    bnd (pBin Tryz.prog .add 3 (.tmp 18) (.const (.int .i64 1)) x18 (.int .i64 1)) fun x29 =>
    F76_lrlrr inv k j x4 x6 x16 x17 x29 u_1.2 ke0)
    (ke0 x4 x6 x16 x17 x18 x19 h)
theorem F76_lrlrr_j (j : Nat) : kLoop (kCode env 76 false inv k (cp c76 116)) j (act 33 [(4, x4), (6, x6), (16, x16), (17, x17), (18, x18)]) h K = F76_lrlrr inv k j x4 x6 x16 x17 x18 h (fun y4 y6 y16 y17 y18 y19 h => K (.exit 0) (act 33 [(4, y4), (6, y6), (16, y16), (17, y17), (18, y18), (19, y19)]) h) := by
      induction j generalizing x4 x6 x16 x17 x18 h with
      | zero => rfl
      | succ j ih =>
        unfold F76_lrlrr
        simp only [kLoop, kq_seq c76 116, r76_3, kq_seq c76 233, b76_lrllrlrr, kq_skip c76 932, kq_seq c76 467, kq_block c76 934 1, kq_seq c76 1868, r76_4, r76_5, r76_6, kq_exit c76 933 0, ih, reduceIte, reduceCtorEq, XE.exit.injEq, Nat.reduceEqDiff, Nat.reduceMul, Nat.reduceAdd] <;> kernel_rfl
theorem F76_lrlrr_eq  : kCode env 76 false inv k (cp c76 58) (act 33 [(4, x4), (6, x6), (16, x16), (17, x17), (18, x18)]) h K = F76_lrlrr inv k k x4 x6 x16 x17 x18 h (fun y4 y6 y16 y17 y18 y19 h => K (.exit 0) (act 33 [(4, y4), (6, y6), (16, y16), (17, y17), (18, y18), (19, y19)]) h) := kq_loop (F76_lrlrr_j k)
theorem r76_7  : kCode env 76 false inv k (cp c76 30) (act 33 [(4, x4), (6, x6), (16, x16), (17, x17), (18, x18), (19, x19)]) h K =
    bnd (pFieldAddr Tryz.prog 34 x4 0) fun x31 =>
    bnd (kSt (pStore Tryz.prog 30 x31 x6 h)) fun u =>
    K .normal (act 33 [(4, x4)]) u.2 := kq_reg
theorem r76_8  : kCode env 76 false inv k (cp c76 62) (act 33 [(4, x4)]) h K =
    bnd (pLoad Tryz.prog 34 x4 h) fun x32 =>
    bnd (kSt (pStore Tryz.prog 34 x4 x32 h)) fun u =>
    K .normal (act 33 [(4, x4)]) u.2 := kq_reg
theorem res76_0 : resOfFn env.P 76 .ret (act 33 [(4, x4)]) h = bnd (pLoad Tryz.prog 34 x4 h) fun q0 =>
    some (q0, h) := kq_res
/-- (*shadowbook/model.Model).names -/
noncomputable def F76 (inv : Inv) (k : Nat) (x0 x1 : Value) (h : AH) : Option (Value × AH) :=
    bnd (pBox Tryz.prog 40 x1 h) fun x3 =>
    bnd (pAlloc Tryz.prog 34 x3.2) fun x4 =>
    bnd (pFieldAddr Tryz.prog 40 x3.1 2) fun x11 =>
    bnd (pLoad Tryz.prog 9 x11 x4.2) fun x12 =>
    bnd (inv (.func 119) #[] #[x0, x12] x4.2) fun x13 =>
    bnd (pExtract x13.1 0) fun x14 =>
    bnd (pExtract x13.1 1) fun x15 =>
    bnd (pLen Tryz.prog #[55] x14 x13.2) fun x17 =>
    F76_lrlrr inv k k x4.1 x15 x14 x17 (.int .i64 0) x13.2
    (fun y4 y6 y16 y17 y18 y19 h =>
    bnd (pFieldAddr Tryz.prog 34 y4 0) fun x31 =>
    bnd (kSt (pStore Tryz.prog 30 x31 y6 h)) fun u =>
    bnd (pLoad Tryz.prog 34 y4 u.2) fun x32 =>
    bnd (kSt (pStore Tryz.prog 34 y4 x32 u.2)) fun u_2 =>
    bnd (pLoad Tryz.prog 34 y4 u_2.2) fun q0 =>
    some (q0, u_2.2))
theorem F76_eq : eFun env k inv 76 #[x0, x1] h = F76 inv k x0 x1 h := by
      refine (kq_fun (a := act 33 [(0, x0), (1, x1)]) (c := cp c76 1)).trans ?_
      unfold F76
      simp only [kq_seq c76 1, r76_0, kq_seq c76 3, r76_1, kq_seq c76 7, kq_seq c76 14, r76_2, kq_block c76 29 0, F76_lrlrr_eq, kq_seq c76 15, r76_7, kq_seq c76 31, r76_8, kq_ret c76 63, res76_0, reduceIte, reduceCtorEq, XE.exit.injEq, Nat.reduceEqDiff, Nat.reduceMul, Nat.reduceAdd] <;> kernel_rfl
theorem F76_call : eInv env (k + 1) (.func 76) #[] #[x0, x1] h = F76 (eInv env k) k x0 x1 h := kq_inv F76_eq
end Go.Proofs.YtkdjlihldeafoaaGreat.Sh
