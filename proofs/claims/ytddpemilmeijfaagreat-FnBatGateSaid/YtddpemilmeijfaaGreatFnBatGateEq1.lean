/- The functions of the seat, evaluated: equations, checked by the kernel. Made by a program. -/
import Derived.Test.YtddpemilmeijfaaGreatFnBatGateEq0
set_option linter.unusedVariables false
set_option maxRecDepth 100000
namespace Go.Proofs.YtddpemilmeijfaaGreat
open Go.Vm
noncomputable section
abbrev M_cx : Lm := [.imm L_bool, .imm .bool]
abbrev R_cx : Lr := [(.imm, I)]
abbrev In_cx := Iq M_cx
abbrev Out_cx := Oq R_cx M_cx
abbrev C_cx := Cq 189 M_cx R_cx
abbrev X_cx : Ctx := ctx tys 19 (conOf []) (keepOf [(pt1, (⟨[(0, .asis), (1, .asis), (7, .asis), (8, .asis)], [], []⟩ : Keep))]) nF
abbrev E_cx := evFn X_cx Tryz.f189 R_cx M_cx
def h0_cx (x0 : Dm (.imm L_bool)) (x1 : Dm (.imm .bool)) (h0 : Dn I) (h1 : Dn I) : St := mkS [(0, (AV.val L_bool x0)), (1, (AV.val Sh.bool x1)), (7, (AV.val I h0)), (8, (AV.val I h1))] []
def r_cx := rounds X_cx Tryz.f189 R_cx M_cx
theorem ev_cx (k : Nat) (x0 : Dm (.imm L_bool)) (x1 : Dm (.imm .bool)) : E_cx k (x0, x1, ()) =
 (r_cx  (x0, x1, ()) k pt1 (h0_cx x0 x1 (List.length x0 : Int) (0 : Int))) := by kernel_rfl
theorem rd0_cx (k : Nat) (x0 : Dm (.imm L_bool)) (x1 : Dm (.imm .bool)) (h0 : Dn I) (h1 : Dn I) : r_cx  (x0, x1, ()) (k + 1) pt1 (h0_cx x0 x1 h0 h1) =
 (bif (decide (h1 < h0)) then (bif (bif (decide ((0 : Int) <= h1)) then (decide (h1 < (List.length x0 : Int))) else false) then (bif (x1 == (rdL (e := Sh.bool) x0 h1)) then (some (h1, ())) else (r_cx  (x0, x1, ()) k pt1 (h0_cx x0 x1 h0 (w64 (h1 + (1 : Int)))))) else none) else (some ((-1 : Int), ()))) := by kernel_rfl
theorem S_cx  {pre fn} (hev : Hq E_cx pre fn) : C_cx pre fn := sound tysOk mixed (fn := Tryz.f189) rfl rfl rfl ConsOk.nil _ hev
abbrev M_cy : Lm := [.imm L_bool, .imm .bool]
abbrev R_cy : Lr := [(.imm, .bool)]
abbrev In_cy := Iq M_cy
abbrev Out_cy := Oq R_cy M_cy
abbrev C_cy := Cq 146 M_cy R_cy
section
variable (g_cx : In_cx -> Out_cx) (p_cx : In_cx -> Bool)
abbrev X_cy : Ctx := ctx tys 9 (conOf [(189, ⟨M_cx, R_cx, p_cx, g_cx⟩)]) (keepOf []) nF
abbrev E_cy := evFn (X_cy g_cx p_cx) Tryz.f146 R_cy M_cy
variable {g_cx p_cx}
theorem ev_cy (k : Nat) (x0 : Dm (.imm L_bool)) (x1 : Dm (.imm .bool)) : E_cy g_cx p_cx k (x0, x1, ()) =
 (cl (p_cx (x0, (x1, ()))) (g_cx (x0, (x1, ()))) fun y0 => (some ((decide ((0 : Int) <= y0.1)), ()))) := by kernel_rfl
theorem S_cy (h_cx : C_cx p_cx g_cx) {pre fn} (hev : Hq (E_cy g_cx p_cx) pre fn) : C_cy pre fn := sound tysOk mixed (fn := Tryz.f146) rfl rfl rfl (.cons h_cx .nil) _ hev
end
abbrev M_cz : Lm := [.imm I, .imm L_int]
abbrev R_cz : Lr := [(.imm, I)]
abbrev In_cz := Iq M_cz
abbrev Out_cz := Oq R_cz M_cz
abbrev C_cz := Cq 82 M_cz R_cz
abbrev X_cz : Ctx := ctx tys 23 (conOf []) (keepOf [(pt1, (⟨[(0, .asis), (7, .asis), (8, .asis), (9, .asis)], [], []⟩ : Keep))]) nF
abbrev E_cz := evFn X_cz Tryz.f82 R_cz M_cz
def h0_cz (x0 : Dm (.imm I)) (x1 : Dm (.imm L_int)) (h0 : Dn I) (h1 : Dn I) (h2 : Dn I) : St := mkS [(0, (AV.val I h0)), (7, (AV.val L_int x1)), (8, (AV.val I h1)), (9, (AV.val I h2))] []
def r_cz := rounds X_cz Tryz.f82 R_cz M_cz
theorem ev_cz (k : Nat) (x0 : Dm (.imm I)) (x1 : Dm (.imm L_int)) : E_cz k (x0, x1, ()) =
 (r_cz  (x0, x1, ()) k pt1 (h0_cz x0 x1 x0 (List.length x1 : Int) (0 : Int))) := by kernel_rfl
theorem rd0_cz (k : Nat) (x0 : Dm (.imm I)) (x1 : Dm (.imm L_int)) (h0 : Dn I) (h1 : Dn I) (h2 : Dn I) : r_cz  (x0, x1, ()) (k + 1) pt1 (h0_cz x0 x1 h0 h1 h2) =
 (bif (decide (h2 < h1)) then (bif (bif (decide ((0 : Int) <= h2)) then (decide (h2 < (List.length x1 : Int))) else false) then (bif (bif (decide ((999983 : Int) = (0 : Int))) then false else true) then (bif (bif (decide ((999983 : Int) = (0 : Int))) then false else true) then (r_cz  (x0, x1, ()) k pt1 (h0_cz x0 x1 (Int.tmod (w64 ((w64 ((w64 ((w64 (h0 * (8191 : Int))) + (Int.tmod (rdL (e := I) x1 h2) (999983 : Int)))) + (999983 : Int))) + (7 : Int))) (999983 : Int)) h1 (w64 (h2 + (1 : Int))))) else none) else none) else none) else (some (h0, ()))) := by kernel_rfl
theorem S_cz  {pre fn} (hev : Hq E_cz pre fn) : C_cz pre fn := sound tysOk mixed (fn := Tryz.f82) rfl rfl rfl ConsOk.nil _ hev
abbrev M_d0 : Lm := [.imm S_BatBatch]
abbrev R_d0 : Lr := [(.imm, I)]
abbrev In_d0 := Iq M_d0
abbrev Out_d0 := Oq R_d0 M_d0
abbrev C_d0 := Cq 29 M_d0 R_d0
section
variable (g_cz : In_cz -> Out_cz) (p_cz : In_cz -> Bool)
abbrev X_d0 : Ctx := ctx tys 69 (conOf [(82, ⟨M_cz, R_cz, p_cz, g_cz⟩)]) (keepOf [(pt2, (⟨[(3, .asis), (51, .asis), (52, .asis), (53, .asis)], [], []⟩ : Keep)), (pt10, (⟨[(1, .asis), (3, .asis), (15, .asis), (16, .asis), (17, .asis), (35, .asis), (36, .asis), (37, .asis)], [(1, .asis)], []⟩ : Keep)), (pt0, (⟨[(1, .asis), (3, .asis), (15, .asis), (16, .asis), (17, .asis)], [(1, .asis)], []⟩ : Keep))]) nF
abbrev E_d0 := evFn (X_d0 g_cz p_cz) Tryz.f29 R_d0 M_d0
def h0_d0 (x0 : Dm (.imm S_BatBatch)) (h0 : Dn I) (h1 : Dn I) (h2 : Dn I) : St := mkS [(1, (AV.ptr 1 none [])), (3, (AV.val I h0)), (15, (AV.val L_TstTest x0.2.2.1)), (16, (AV.val I h1)), (17, (AV.val I h2))] [(1, (Ob.box S_BatBatch (AV.val S_BatBatch x0)))]
def h1_d0 (x0 : Dm (.imm S_BatBatch)) (h0 : Dn I) (h1 : Dn I) (h2 : Dn I) (h3 : Dn L_DecDec) (h4 : Dn I) (h5 : Dn I) : St := mkS [(1, (AV.ptr 1 none [])), (3, (AV.val I h0)), (15, (AV.val L_TstTest x0.2.2.1)), (16, (AV.val I h1)), (17, (AV.val I h2)), (35, (AV.val L_DecDec h3)), (36, (AV.val I h4)), (37, (AV.val I h5))] [(1, (Ob.box S_BatBatch (AV.val S_BatBatch x0)))]
def h2_d0 (x0 : Dm (.imm S_BatBatch)) (h0 : Dn I) (h1 : Dn I) (h2 : Dn I) : St := mkS [(3, (AV.val I h0)), (51, (AV.val L_bool x0.2.2.2.2.2)), (52, (AV.val I h1)), (53, (AV.val I h2))] []
def r_d0 := rounds (X_d0 g_cz p_cz) Tryz.f29 R_d0 M_d0
variable {g_cz p_cz}
theorem ev_d0 (k : Nat) (x0 : Dm (.imm S_BatBatch)) : E_d0 g_cz p_cz k (x0, ()) =
 (cl (p_cz ((1 : Int), ([x0.1], ()))) (g_cz ((1 : Int), ([x0.1], ()))) fun y0 => (r_d0 g_cz p_cz (x0, ()) k pt0 (h0_d0 x0 (y0.1) (List.length x0.2.2.1 : Int) (0 : Int)))) := by kernel_rfl
theorem rd0_d0 (k : Nat) (x0 : Dm (.imm S_BatBatch)) (h0 : Dn I) (h1 : Dn I) (h2 : Dn I) : r_d0 g_cz p_cz (x0, ()) (k + 1) pt0 (h0_d0 x0 h0 h1 h2) =
 (lt (rdL (e := S_TstTest) x0.2.2.1 h2) fun s0 => (bif (decide (h2 < h1)) then (bif (bif (decide ((0 : Int) <= h2)) then (decide (h2 < (List.length x0.2.2.1 : Int))) else false) then (cl (p_cz (h0, ([(s0.2.1), (s0.2.2.1.1), (s0.2.2.1.2), (s0.2.2.2.1)], ()))) (g_cz (h0, ([(s0.2.1), (s0.2.2.1.1), (s0.2.2.1.2), (s0.2.2.2.1)], ()))) fun y0 => (r_d0 g_cz p_cz (x0, ()) k pt10 (h1_d0 x0 (y0.1) h1 h2 (s0.2.2.2.2) (List.length s0.2.2.2.2 : Int) (0 : Int)))) else none) else (r_d0 g_cz p_cz (x0, ()) k pt2 (h2_d0 x0 h0 (List.length x0.2.2.2.2.2 : Int) (0 : Int))))) := by kernel_rfl
theorem rd1_d0 (k : Nat) (x0 : Dm (.imm S_BatBatch)) (h0 : Dn I) (h1 : Dn I) (h2 : Dn I) (h3 : Dn L_DecDec) (h4 : Dn I) (h5 : Dn I) : r_d0 g_cz p_cz (x0, ()) (k + 1) pt10 (h1_d0 x0 h0 h1 h2 h3 h4 h5) =
 (bif (decide (h5 < h4)) then (bif (bif (decide ((0 : Int) <= h5)) then (decide (h5 < (List.length h3 : Int))) else false) then (cl (p_cz (h0, ([((rdL (e := S_DecDec) h3 h5).1), ((rdL (e := S_DecDec) h3 h5).2)], ()))) (g_cz (h0, ([((rdL (e := S_DecDec) h3 h5).1), ((rdL (e := S_DecDec) h3 h5).2)], ()))) fun y0 => (r_d0 g_cz p_cz (x0, ()) k pt10 (h1_d0 x0 (y0.1) h1 h2 h3 h4 (w64 (h5 + (1 : Int)))))) else none) else (r_d0 g_cz p_cz (x0, ()) k pt0 (h0_d0 x0 h0 h1 (w64 (h2 + (1 : Int)))))) := by kernel_rfl
theorem rd2_d0 (k : Nat) (x0 : Dm (.imm S_BatBatch)) (h0 : Dn I) (h1 : Dn I) (h2 : Dn I) : r_d0 g_cz p_cz (x0, ()) (k + 1) pt2 (h2_d0 x0 h0 h1 h2) =
 (bif (decide (h2 < h1)) then (bif (bif (decide ((0 : Int) <= h2)) then (decide (h2 < (List.length x0.2.2.2.2.2 : Int))) else false) then (cl (p_cz (h0, ([(w64 (h2 + (1 : Int)))], ()))) (g_cz (h0, ([(w64 (h2 + (1 : Int)))], ()))) fun y0 => (bif (rdL (e := Sh.bool) x0.2.2.2.2.2 h2) then (cl (p_cz (y0.1, ([(77 : Int)], ()))) (g_cz (y0.1, ([(77 : Int)], ()))) fun y1 => (r_d0 g_cz p_cz (x0, ()) k pt2 (h2_d0 x0 (y1.1) h1 (w64 (h2 + (1 : Int)))))) else (r_d0 g_cz p_cz (x0, ()) k pt2 (h2_d0 x0 (y0.1) h1 (w64 (h2 + (1 : Int))))))) else none) else (some (h0, ()))) := by kernel_rfl
theorem S_d0 (h_cz : C_cz p_cz g_cz) {pre fn} (hev : Hq (E_d0 g_cz p_cz) pre fn) : C_d0 pre fn := sound tysOk mixed (fn := Tryz.f29) rfl rfl rfl (.cons h_cz .nil) _ hev
end
abbrev M_d1 : Lm := [.imm S_BatBatch, .imm I, .imm I]
abbrev R_d1 : Lr := [(.imm, I)]
abbrev In_d1 := Iq M_d1
abbrev Out_d1 := Oq R_d1 M_d1
abbrev C_d1 := Cq 33 M_d1 R_d1
section
variable (g_d0 : In_d0 -> Out_d0) (p_d0 : In_d0 -> Bool)
abbrev X_d1 : Ctx := ctx tys 38 (conOf [(29, ⟨M_d0, R_d0, p_d0, g_d0⟩)]) (keepOf [(pt0, (⟨[(1, .asis), (2, .asis), (7, .asis), (13, .asis), (14, .asis), (15, .asis)], [], []⟩ : Keep))]) nF
abbrev E_d1 := evFn (X_d1 g_d0 p_d0) Tryz.f33 R_d1 M_d1
def h0_d1 (x0 : Dm (.imm S_BatBatch)) (x1 : Dm (.imm I)) (x2 : Dm (.imm I)) (h0 : Dn I) (h1 : Dn I) (h2 : Dn I) : St := mkS [(1, (AV.val I x1)), (2, (AV.val I x2)), (7, (AV.val I h0)), (13, (AV.val L_BatSig x0.2.2.2.2.1)), (14, (AV.val I h1)), (15, (AV.val I h2))] []
def r_d1 := rounds (X_d1 g_d0 p_d0) Tryz.f33 R_d1 M_d1
variable {g_d0 p_d0}
theorem ev_d1 (k : Nat) (x0 : Dm (.imm S_BatBatch)) (x1 : Dm (.imm I)) (x2 : Dm (.imm I)) : E_d1 g_d0 p_d0 k (x0, x1, x2, ()) =
 (cl (p_d0 (x0, ())) (g_d0 (x0, ())) fun y0 => (r_d1 g_d0 p_d0 (x0, x1, x2, ()) k pt0 (h0_d1 x0 x1 x2 (y0.1) (List.length x0.2.2.2.2.1 : Int) (0 : Int)))) := by kernel_rfl
theorem rd0_d1 (k : Nat) (x0 : Dm (.imm S_BatBatch)) (x1 : Dm (.imm I)) (x2 : Dm (.imm I)) (h0 : Dn I) (h1 : Dn I) (h2 : Dn I) : r_d1 g_d0 p_d0 (x0, x1, x2, ()) (k + 1) pt0 (h0_d1 x0 x1 x2 h0 h1 h2) =
 (bif (decide (h2 < h1)) then (bif (bif (decide ((0 : Int) <= h2)) then (decide (h2 < (List.length x0.2.2.2.2.1 : Int))) else false) then (bif (decide ((rdL (e := S_BatSig) x0.2.2.2.2.1 h2).2.1 = x1)) then (bif (decide ((rdL (e := S_BatSig) x0.2.2.2.2.1 h2).2.2 = h0)) then (bif (bif (decide ((rdL (e := S_BatSig) x0.2.2.2.2.1 h2).1 = x2)) then false else true) then (some ((rdL (e := S_BatSig) x0.2.2.2.2.1 h2).1, ())) else (r_d1 g_d0 p_d0 (x0, x1, x2, ()) k pt0 (h0_d1 x0 x1 x2 h0 h1 (w64 (h2 + (1 : Int)))))) else (r_d1 g_d0 p_d0 (x0, x1, x2, ()) k pt0 (h0_d1 x0 x1 x2 h0 h1 (w64 (h2 + (1 : Int)))))) else (r_d1 g_d0 p_d0 (x0, x1, x2, ()) k pt0 (h0_d1 x0 x1 x2 h0 h1 (w64 (h2 + (1 : Int)))))) else none) else (some ((0 : Int), ()))) := by kernel_rfl
theorem S_d1 (h_d0 : C_d0 p_d0 g_d0) {pre fn} (hev : Hq (E_d1 g_d0 p_d0) pre fn) : C_d1 pre fn := sound tysOk mixed (fn := Tryz.f33) rfl rfl rfl (.cons h_d0 .nil) _ hev
end
abbrev M_d2 : Lm := [.imm S_BatSig, .pR I, .pR S_BatBatch]
abbrev R_d2 : Lr := [(.imm, .bool)]
abbrev In_d2 := Iq M_d2
abbrev Out_d2 := Oq R_d2 M_d2
abbrev C_d2 := Cq 147 M_d2 R_d2
section
variable (g_d1 : In_d1 -> Out_d1) (p_d1 : In_d1 -> Bool)
abbrev X_d2 : Ctx := ctx tys 21 (conOf [(33, ⟨M_d1, R_d1, p_d1, g_d1⟩)]) (keepOf []) nF
abbrev E_d2 := evFn (X_d2 g_d1 p_d1) Tryz.f147 R_d2 M_d2
variable {g_d1 p_d1}
theorem ev_d2 (k : Nat) (x0 : Dm (.imm S_BatSig)) (x1 : Dm (.pR I)) (x2 : Dm (.pR S_BatBatch)) : E_d2 g_d1 p_d1 k (x0, x1, x2, ()) =
 (bif (decide (x0.2.1 = (2 : Int))) then (bif (decide (x0.2.2 = x1)) then (cl (p_d1 (x2, ((3 : Int), (x0.1, ())))) (g_d1 (x2, ((3 : Int), (x0.1, ())))) fun y0 => (some ((decide ((0 : Int) < y0.1)), ()))) else (some (false, ()))) else (some (false, ()))) := by kernel_rfl
theorem S_d2 (h_d1 : C_d1 p_d1 g_d1) {pre fn} (hev : Hq (E_d2 g_d1 p_d1) pre fn) : C_d2 pre fn := sound tysOk mixed (fn := Tryz.f147) rfl rfl rfl (.cons h_d1 .nil) _ hev
end
abbrev M_d3 : Lm := [.imm L_BatSig, .clo 147 [I, S_BatBatch]]
abbrev R_d3 : Lr := [(.imm, I)]
abbrev In_d3 := Iq M_d3
abbrev Out_d3 := Oq R_d3 M_d3
abbrev C_d3 := Cq 158 M_d3 R_d3
section
variable (g_d2 : In_d2 -> Out_d2) (p_d2 : In_d2 -> Bool)
abbrev X_d3 : Ctx := ctx tys 19 (conOf [(147, ⟨M_d2, R_d2, p_d2, g_d2⟩)]) (keepOf [(pt1, (⟨[(0, .asis), (1, .asis), (7, .asis), (8, .asis)], [(1000005000, .asis), (1000005001, .asis)], []⟩ : Keep))]) nF
abbrev E_d3 := evFn (X_d3 g_d2 p_d2) Tryz.f158 R_d3 M_d3
def h0_d3 (x0 : Dm (.imm L_BatSig)) (x1 : Dm (.clo 147 [I, S_BatBatch])) (h0 : Dn I) (h1 : Dn I) : St := mkS [(0, (AV.val L_BatSig x0)), (1, (AV.fn 147 [1000005000, 1000005001])), (7, (AV.val I h0)), (8, (AV.val I h1))] [(1000005000, (Ob.cbox I x1.1)), (1000005001, (Ob.cbox S_BatBatch x1.2.1))]
def r_d3 := rounds (X_d3 g_d2 p_d2) Tryz.f158 R_d3 M_d3
variable {g_d2 p_d2}
theorem ev_d3 (k : Nat) (x0 : Dm (.imm L_BatSig)) (x1 : Dm (.clo 147 [I, S_BatBatch])) : E_d3 g_d2 p_d2 k (x0, x1, ()) =
 (r_d3 g_d2 p_d2 (x0, x1, ()) k pt1 (h0_d3 x0 x1 (List.length x0 : Int) (0 : Int))) := by kernel_rfl
theorem rd0_d3 (k : Nat) (x0 : Dm (.imm L_BatSig)) (x1 : Dm (.clo 147 [I, S_BatBatch])) (h0 : Dn I) (h1 : Dn I) : r_d3 g_d2 p_d2 (x0, x1, ()) (k + 1) pt1 (h0_d3 x0 x1 h0 h1) =
 (bif (decide (h1 < h0)) then (bif (bif (decide ((0 : Int) <= h1)) then (decide (h1 < (List.length x0 : Int))) else false) then (cl (p_d2 ((rdL (e := S_BatSig) x0 h1), (x1.1, (x1.2.1, ())))) (g_d2 ((rdL (e := S_BatSig) x0 h1), (x1.1, (x1.2.1, ())))) fun y0 => (bif y0.1 then (some (h1, ())) else (r_d3 g_d2 p_d2 (x0, x1, ()) k pt1 (h0_d3 x0 x1 h0 (w64 (h1 + (1 : Int))))))) else none) else (some ((-1 : Int), ()))) := by kernel_rfl
theorem S_d3 (h_d2 : C_d2 p_d2 g_d2) {pre fn} (hev : Hq (E_d3 g_d2 p_d2) pre fn) : C_d3 pre fn := sound tysOk mixed (fn := Tryz.f158) rfl rfl rfl (.cons h_d2 .nil) _ hev
end
abbrev M_d4 : Lm := [.imm L_BatSig, .clo 147 [I, S_BatBatch]]
abbrev R_d4 : Lr := [(.imm, .bool)]
abbrev In_d4 := Iq M_d4
abbrev Out_d4 := Oq R_d4 M_d4
abbrev C_d4 := Cq 91 M_d4 R_d4
section
variable (g_d3 : In_d3 -> Out_d3) (p_d3 : In_d3 -> Bool)
abbrev X_d4 : Ctx := ctx tys 9 (conOf [(158, ⟨M_d3, R_d3, p_d3, g_d3⟩)]) (keepOf []) nF
abbrev E_d4 := evFn (X_d4 g_d3 p_d3) Tryz.f91 R_d4 M_d4
variable {g_d3 p_d3}
theorem ev_d4 (k : Nat) (x0 : Dm (.imm L_BatSig)) (x1 : Dm (.clo 147 [I, S_BatBatch])) : E_d4 g_d3 p_d3 k (x0, x1, ()) =
 (cl (p_d3 (x0, ((x1.1, (x1.2.1, ())), ()))) (g_d3 (x0, ((x1.1, (x1.2.1, ())), ()))) fun y0 => (some ((decide ((0 : Int) <= y0.1)), ()))) := by kernel_rfl
theorem S_d4 (h_d3 : C_d3 p_d3 g_d3) {pre fn} (hev : Hq (E_d4 g_d3 p_d3) pre fn) : C_d4 pre fn := sound tysOk mixed (fn := Tryz.f91) rfl rfl rfl (.cons h_d3 .nil) _ hev
end
abbrev M_d5 : Lm := [.imm S_BatBatch]
abbrev R_d5 : Lr := [(.imm, .bool)]
abbrev In_d5 := Iq M_d5
abbrev Out_d5 := Oq R_d5 M_d5
abbrev C_d5 := Cq 79 M_d5 R_d5
section
variable (g_cw : In_cw -> Out_cw) (p_cw : In_cw -> Bool) (g_cy : In_cy -> Out_cy) (p_cy : In_cy -> Bool) (g_d0 : In_d0 -> Out_d0) (p_d0 : In_d0 -> Bool) (g_d4 : In_d4 -> Out_d4) (p_d4 : In_d4 -> Bool)
abbrev X_d5 : Ctx := ctx tys 20 (conOf [(145, ⟨M_cw, R_cw, p_cw, g_cw⟩), (146, ⟨M_cy, R_cy, p_cy, g_cy⟩), (29, ⟨M_d0, R_d0, p_d0, g_d0⟩), (91, ⟨M_d4, R_d4, p_d4, g_d4⟩)]) (keepOf []) nF
abbrev E_d5 := evFn (X_d5 g_cw p_cw g_cy p_cy g_d0 p_d0 g_d4 p_d4) Tryz.f79 R_d5 M_d5
variable {g_cw p_cw g_cy p_cy g_d0 p_d0 g_d4 p_d4}
theorem ev_d5 (k : Nat) (x0 : Dm (.imm S_BatBatch)) : E_d5 g_cw p_cw g_cy p_cy g_d0 p_d0 g_d4 p_d4 k (x0, ()) =
 (cl (p_cw (x0.2.2.1, ((), ()))) (g_cw (x0.2.2.1, ((), ()))) fun y0 => (bif y0.1 then (some (false, ())) else (cl (p_cy (x0.2.2.2.2.2, (true, ()))) (g_cy (x0.2.2.2.2.2, (true, ()))) fun y1 => (bif y1.1 then (some (false, ())) else (cl (p_d0 (x0, ())) (g_d0 (x0, ())) fun y2 => (cl (p_d4 (x0.2.2.2.2.1, ((y2.1, (x0, ())), ()))) (g_d4 (x0.2.2.2.2.1, ((y2.1, (x0, ())), ()))) fun y3 => (some (y3.1, ())))))))) := by kernel_rfl
theorem S_d5 (h_cw : C_cw p_cw g_cw) (h_cy : C_cy p_cy g_cy) (h_d0 : C_d0 p_d0 g_d0) (h_d4 : C_d4 p_d4 g_d4) {pre fn} (hev : Hq (E_d5 g_cw p_cw g_cy p_cy g_d0 p_d0 g_d4 p_d4) pre fn) : C_d5 pre fn := sound tysOk mixed (fn := Tryz.f79) rfl rfl rfl (.cons h_cw (.cons h_cy (.cons h_d0 (.cons h_d4 .nil)))) _ hev
end
abbrev M_d6 : Lm := [.imm S_BatBatch]
abbrev R_d6 : Lr := [(.imm, .bool)]
abbrev In_d6 := Iq M_d6
abbrev Out_d6 := Oq R_d6 M_d6
abbrev C_d6 := Cq 34 M_d6 R_d6
section
variable (g_iin : In_iin -> Out_iin) (g_cn : In_cn -> Out_cn) (p_cn : In_cn -> Bool) (g_ct : In_ct -> Out_ct) (p_ct : In_ct -> Bool) (g_d5 : In_d5 -> Out_d5) (p_d5 : In_d5 -> Bool)
abbrev X_d6 : Ctx := ctx tys 87 (conOf [(65, ⟨M_iin, R_iin, fun _ => true, g_iin⟩), (88, ⟨M_cn, R_cn, p_cn, g_cn⟩), (91, ⟨M_ct, R_ct, p_ct, g_ct⟩), (79, ⟨M_d5, R_d5, p_d5, g_d5⟩)]) (keepOf [(pt0, (⟨[(1, .asis), (30, .asis), (31, .asis), (32, .asis)], [(1, .asis)], []⟩ : Keep))]) nF
abbrev E_d6 := evFn (X_d6 g_iin g_cn p_cn g_ct p_ct g_d5 p_d5) Tryz.f34 R_d6 M_d6
def h0_d6 (x0 : Dm (.imm S_BatBatch)) (h0 : Dn I) (h1 : Dn I) : St := mkS [(1, (AV.ptr 1 none [])), (30, (AV.val L_TstTest x0.2.2.1)), (31, (AV.val I h0)), (32, (AV.val I h1))] [(1, (Ob.box S_BatBatch (AV.val S_BatBatch x0)))]
def r_d6 := rounds (X_d6 g_iin g_cn p_cn g_ct p_ct g_d5 p_d5) Tryz.f34 R_d6 M_d6
variable {g_iin g_cn p_cn g_ct p_ct g_d5 p_d5}
theorem ev_d6 (k : Nat) (x0 : Dm (.imm S_BatBatch)) : E_d6 g_iin g_cn p_cn g_ct p_ct g_d5 p_d5 k (x0, ()) =
 (bif (bif (g_iin (x0.1, ((0 : Int), ((5 : Int), ())))).1 then false else true) then (some (false, ())) else (bif (bif (g_iin (x0.2.1, ((1 : Int), ((10000 : Int), ())))).1 then false else true) then (some (false, ())) else (bif (bif (g_iin ((List.length x0.2.2.1 : Int), ((1 : Int), ((4 : Int), ())))).1 then false else true) then (some (false, ())) else (bif (bif (g_iin (x0.2.2.2.1, ((1 : Int), ((4 : Int), ())))).1 then false else true) then (some (false, ())) else (r_d6 g_iin g_cn p_cn g_ct p_ct g_d5 p_d5 (x0, ()) k pt0 (h0_d6 x0 (List.length x0.2.2.1 : Int) (0 : Int))))))) := by kernel_rfl
theorem rd0_d6 (k : Nat) (x0 : Dm (.imm S_BatBatch)) (h0 : Dn I) (h1 : Dn I) : r_d6 g_iin g_cn p_cn g_ct p_ct g_d5 p_d5 (x0, ()) (k + 1) pt0 (h0_d6 x0 h0 h1) =
 (lt (rdL (e := S_TstTest) x0.2.2.1 h1) fun s1 => (lt (w64 (h1 - (1 : Int))) fun s0 => (bif (decide (h1 < h0)) then (bif (bif (decide ((0 : Int) <= h1)) then (decide (h1 < (List.length x0.2.2.1 : Int))) else false) then (cl (p_cn (s1, ())) (g_cn (s1, ())) fun y0 => (bif (bif y0.1 then false else true) then (some (false, ())) else (bif (decide ((0 : Int) < h1)) then (bif (bif (decide ((0 : Int) <= s0)) then (decide (s0 < (List.length x0.2.2.1 : Int))) else false) then (bif (decide (s1.1.1 <= (rdL (e := S_TstTest) x0.2.2.1 s0).1.1)) then (some (false, ())) else (r_d6 g_iin g_cn p_cn g_ct p_ct g_d5 p_d5 (x0, ()) k pt0 (h0_d6 x0 h0 (w64 (h1 + (1 : Int)))))) else none) else (r_d6 g_iin g_cn p_cn g_ct p_ct g_d5 p_d5 (x0, ()) k pt0 (h0_d6 x0 h0 (w64 (h1 + (1 : Int)))))))) else none) else (bif (decide ((6 : Int) < (List.length x0.2.2.2.2.1 : Int))) then (some (false, ())) else (cl (p_ct (x0.2.2.2.2.1, ((), ()))) (g_ct (x0.2.2.2.2.1, ((), ()))) fun y1 => (bif y1.1 then (some (false, ())) else (bif (decide ((3 : Int) < (List.length x0.2.2.2.2.2 : Int))) then (some (false, ())) else (bif (bif (decide (x0.2.2.2.1 = (2 : Int))) then false else true) then (bif (bif (decide (x0.2.2.2.1 = (4 : Int))) then false else true) then (some (true, ())) else (cl (p_d5 (x0, ())) (g_d5 (x0, ())) fun y2 => (some (y2.1, ())))) else (cl (p_d5 (x0, ())) (g_d5 (x0, ())) fun y3 => (some (y3.1, ()))))))))))) := by kernel_rfl
theorem S_d6 (h_iin : C_iin (fun _ => true) g_iin) (h_cn : C_cn p_cn g_cn) (h_ct : C_ct p_ct g_ct) (h_d5 : C_d5 p_d5 g_d5) {pre fn} (hev : Hq (E_d6 g_iin g_cn p_cn g_ct p_ct g_d5 p_d5) pre fn) : C_d6 pre fn := sound tysOk mixed (fn := Tryz.f34) rfl rfl rfl (.cons h_iin (.cons h_cn (.cons h_ct (.cons h_d5 .nil)))) _ hev
end
abbrev M_d7 : Lm := [.imm S_BatBatch]
abbrev R_d7 : Lr := [(.imm, .bool)]
abbrev In_d7 := Iq M_d7
abbrev Out_d7 := Oq R_d7 M_d7
abbrev C_d7 := Cq 26 M_d7 R_d7
section
variable (g_d6 : In_d6 -> Out_d6) (p_d6 : In_d6 -> Bool) (g_d5 : In_d5 -> Out_d5) (p_d5 : In_d5 -> Bool)
abbrev X_d7 : Ctx := ctx tys 9 (conOf [(34, ⟨M_d6, R_d6, p_d6, g_d6⟩), (79, ⟨M_d5, R_d5, p_d5, g_d5⟩)]) (keepOf []) nF
abbrev E_d7 := evFn (X_d7 g_d6 p_d6 g_d5 p_d5) Tryz.f26 R_d7 M_d7
variable {g_d6 p_d6 g_d5 p_d5}
theorem ev_d7 (k : Nat) (x0 : Dm (.imm S_BatBatch)) : E_d7 g_d6 p_d6 g_d5 p_d5 k (x0, ()) =
 (cl (p_d6 (x0, ())) (g_d6 (x0, ())) fun y0 => (bif y0.1 then (cl (p_d5 (x0, ())) (g_d5 (x0, ())) fun y1 => (some (y1.1, ()))) else (some (false, ())))) := by kernel_rfl
theorem S_d7 (h_d6 : C_d6 p_d6 g_d6) (h_d5 : C_d5 p_d5 g_d5) {pre fn} (hev : Hq (E_d7 g_d6 p_d6 g_d5 p_d5) pre fn) : C_d7 pre fn := sound tysOk mixed (fn := Tryz.f26) rfl rfl rfl (.cons h_d6 (.cons h_d5 .nil)) _ hev
end
abbrev M_d8 : Lm := [.imm S_BatBatch]
abbrev R_d8 : Lr := [(.imm, .bool)]
abbrev In_d8 := Iq M_d8
abbrev Out_d8 := Oq R_d8 M_d8
abbrev C_d8 := Cq 27 M_d8 R_d8
section
variable (g_bb : In_bb -> Out_bb) (p_bb : In_bb -> Bool) (g_ba : In_ba -> Out_ba) (p_ba : In_ba -> Bool)
abbrev X_d8 : Ctx := ctx tys 9 (conOf [(28, ⟨M_bb, R_bb, p_bb, g_bb⟩), (80, ⟨M_ba, R_ba, p_ba, g_ba⟩)]) (keepOf []) nF
abbrev E_d8 := evFn (X_d8 g_bb p_bb g_ba p_ba) Tryz.f27 R_d8 M_d8
variable {g_bb p_bb g_ba p_ba}
theorem ev_d8 (k : Nat) (x0 : Dm (.imm S_BatBatch)) : E_d8 g_bb p_bb g_ba p_ba k (x0, ()) =
 (cl (p_bb (x0, ())) (g_bb (x0, ())) fun y0 => (bif y0.1 then (cl (p_ba (x0, ())) (g_ba (x0, ())) fun y1 => (some (y1.1, ()))) else (some (false, ())))) := by kernel_rfl
theorem S_d8 (h_bb : C_bb p_bb g_bb) (h_ba : C_ba p_ba g_ba) {pre fn} (hev : Hq (E_d8 g_bb p_bb g_ba p_ba) pre fn) : C_d8 pre fn := sound tysOk mixed (fn := Tryz.f27) rfl rfl rfl (.cons h_bb (.cons h_ba .nil)) _ hev
end
abbrev M_d9 : Lm := [.imm I]
abbrev R_d9 : Lr := [(.imm, .bool)]
abbrev In_d9 := Iq M_d9
abbrev Out_d9 := Oq R_d9 M_d9
abbrev C_d9 := Cq 185 M_d9 R_d9
abbrev X_d9 : Ctx := ctx tys 16 (conOf []) (keepOf []) nF
abbrev E_d9 := evFn X_d9 Tryz.f185 R_d9 M_d9
theorem ev_d9 (k : Nat) (x0 : Dm (.imm I)) : E_d9 k (x0, ()) =
 (bif (bif (decide ((4 : Int) = (0 : Int))) then false else true) then (bif (decide ((Int.tmod x0 (4 : Int)) = (0 : Int))) then (bif (bif (decide ((100 : Int) = (0 : Int))) then false else true) then (bif (bif (decide ((Int.tmod x0 (100 : Int)) = (0 : Int))) then false else true) then (some (true, ())) else (bif (bif (decide ((400 : Int) = (0 : Int))) then false else true) then (some ((decide ((Int.tmod x0 (400 : Int)) = (0 : Int))), ())) else none)) else none) else (some (false, ()))) else none) := by kernel_rfl
theorem S_d9  {pre fn} (hev : Hq E_d9 pre fn) : C_d9 pre fn := sound tysOk mixed (fn := Tryz.f185) rfl rfl rfl ConsOk.nil _ hev
abbrev M_da : Lm := [.imm I, .imm I]
abbrev R_da : Lr := [(.imm, I)]
abbrev In_da := Iq M_da
abbrev Out_da := Oq R_da M_da
abbrev C_da := Cq 137 M_da R_da
section
variable (g_iin : In_iin -> Out_iin) (g_d9 : In_d9 -> Out_d9)
abbrev X_da : Ctx := ctx tys 20 (conOf [(65, ⟨M_iin, R_iin, fun _ => true, g_iin⟩), (185, ⟨M_d9, R_d9, fun _ => true, g_d9⟩)]) (keepOf []) nF
abbrev E_da := evFn (X_da g_iin g_d9) Tryz.f137 R_da M_da
variable {g_iin g_d9}
theorem ev_da (k : Nat) (x0 : Dm (.imm I)) (x1 : Dm (.imm I)) : E_da g_iin g_d9 k (x0, x1, ()) =
 (bif (bif (g_iin (x1, ((1 : Int), ((12 : Int), ())))).1 then false else true) then (some ((0 : Int), ())) else (bif (decide (x1 = (2 : Int))) then (bif (g_d9 (x0, ())).1 then (some ((29 : Int), ())) else none) else none)) := by kernel_rfl
theorem S_da (h_iin : C_iin (fun _ => true) g_iin) (h_d9 : C_d9 (fun _ => true) g_d9) {pre fn} (hev : Hq (E_da g_iin g_d9) pre fn) : C_da pre fn := sound tysOk mixed (fn := Tryz.f137) rfl rfl rfl (.cons h_iin (.cons h_d9 .nil)) _ hev
end
abbrev M_db : Lm := [.imm S_BatSig]
abbrev R_db : Lr := [(.imm, .bool)]
abbrev In_db := Iq M_db
abbrev Out_db := Oq R_db M_db
abbrev C_db := Cq 64 M_db R_db
section
variable (g_iin : In_iin -> Out_iin) (g_da : In_da -> Out_da) (p_da : In_da -> Bool)
abbrev X_db : Ctx := ctx tys 16 (conOf [(65, ⟨M_iin, R_iin, fun _ => true, g_iin⟩), (137, ⟨M_da, R_da, p_da, g_da⟩)]) (keepOf []) nF
abbrev E_db := evFn (X_db g_iin g_da p_da) Tryz.f64 R_db M_db
variable {g_iin g_da p_da}
theorem ev_db (k : Nat) (x0 : Dm (.imm S_BatSig)) : E_db g_iin g_da p_da k (x0, ()) =
 (bif (g_iin (x0.1, ((1900 : Int), ((2199 : Int), ())))).1 then (bif (p_da (x0.1, (x0.2.1, ()))) then (some ((g_iin (x0.2.2, ((1 : Int), ((g_da (x0.1, (x0.2.1, ()))).1, ())))).1, ())) else none) else (some (false, ()))) := by kernel_rfl
theorem S_db (h_iin : C_iin (fun _ => true) g_iin) (h_da : C_da p_da g_da) {pre fn} (hev : Hq (E_db g_iin g_da p_da) pre fn) : C_db pre fn := sound tysOk mixed (fn := Tryz.f64) rfl rfl rfl (.cons h_iin (.cons h_da .nil)) _ hev
end
abbrev M_dc : Lm := []
abbrev R_dc : Lr := [(.imm, .bool)]
abbrev In_dc := Iq M_dc
abbrev Out_dc := Oq R_dc M_dc
abbrev C_dc := Cq 19 M_dc R_dc
section
variable (g_db : In_db -> Out_db) (p_db : In_db -> Bool)
abbrev X_dc : Ctx := ctx tys 3 (conOf [(64, ⟨M_db, R_db, p_db, g_db⟩)]) (keepOf []) nF
abbrev E_dc := evFn (X_dc g_db p_db) Tryz.f19 R_dc M_dc
variable {g_db p_db}
theorem ev_dc (k : Nat)  : E_dc g_db p_db k (()) =
 (bif (p_db (((2000 : Int), ((2 : Int), (29 : Int))), ())) then (some ((g_db (((2000 : Int), ((2 : Int), (29 : Int))), ())).1, ())) else none) := by kernel_rfl
theorem S_dc (h_db : C_db p_db g_db) {pre fn} (hev : Hq (E_dc g_db p_db) pre fn) : C_dc pre fn := sound tysOk mixed (fn := Tryz.f19) rfl rfl rfl (.cons h_db .nil) _ hev
end
abbrev M_lFnBatGate : Lm := [.imm L_u8]
abbrev R_lFnBatGate : Lr := [(.own, .bool)]
abbrev In_lFnBatGate := Iq M_lFnBatGate
abbrev Out_lFnBatGate := Oq R_lFnBatGate M_lFnBatGate
abbrev C_lFnBatGate := Cq 5 M_lFnBatGate R_lFnBatGate
section
variable (g_c1 : In_c1 -> Out_c1) (p_c1 : In_c1 -> Bool) (g_d7 : In_d7 -> Out_d7) (p_d7 : In_d7 -> Bool) (g_d8 : In_d8 -> Out_d8) (p_d8 : In_d8 -> Bool) (g_bb : In_bb -> Out_bb) (p_bb : In_bb -> Bool) (g_dc : In_dc -> Out_dc) (g_d0 : In_d0 -> Out_d0) (p_d0 : In_d0 -> Bool)
abbrev X_lFnBatGate : Ctx := ctx tys 130 (conOf [(25, ⟨M_c1, R_c1, p_c1, g_c1⟩), (26, ⟨M_d7, R_d7, p_d7, g_d7⟩), (27, ⟨M_d8, R_d8, p_d8, g_d8⟩), (28, ⟨M_bb, R_bb, p_bb, g_bb⟩), (19, ⟨M_dc, R_dc, fun _ => true, g_dc⟩), (29, ⟨M_d0, R_d0, p_d0, g_d0⟩)]) (keepOf [(pt3, (⟨[(3, .asis), (4, .asis), (5, .asis), (8, .asis), (9, .asis), (10, .asis)], [(3, .asis)], []⟩ : Keep)), (pt11, (⟨[(3, .asis), (4, .asis), (5, .asis), (8, .asis), (9, .asis)], [(3, .asis)], []⟩ : Keep)), (pt6, (⟨[(3, .asis), (4, .asis), (5, .asis), (7, .asis)], [(3, .asis)], []⟩ : Keep)), (pt7, (⟨[(3, .asis), (4, .asis), (5, .asis), (6, .asis)], [(3, .asis)], []⟩ : Keep))]) nF
abbrev E_lFnBatGate := evFn (X_lFnBatGate g_c1 p_c1 g_d7 p_d7 g_d8 p_d8 g_bb p_bb g_dc g_d0 p_d0) Tryz.f5 R_lFnBatGate M_lFnBatGate
def h0_lFnBatGate (x0 : Dm (.imm L_u8)) (h0 : Dn Sh.bool) (h1 : Dn Sh.bool) (h2 : Dn I) (h3 : Dn S_BatBatch) : St := mkS [(3, (AV.ptr 3 none [])), (4, (AV.val Sh.bool h0)), (5, (AV.val Sh.bool h1)), (6, (AV.val I h2))] [(3, (Ob.box S_BatBatch (AV.val S_BatBatch h3)))]
def h1_lFnBatGate (x0 : Dm (.imm L_u8)) (h0 : Dn Sh.bool) (h1 : Dn Sh.bool) (h2 : Dn I) (h3 : Dn S_BatBatch) : St := mkS [(3, (AV.ptr 3 none [])), (4, (AV.val Sh.bool h0)), (5, (AV.val Sh.bool h1)), (7, (AV.val I h2))] [(3, (Ob.box S_BatBatch (AV.val S_BatBatch h3)))]
def h2_lFnBatGate (x0 : Dm (.imm L_u8)) (h0 : Dn Sh.bool) (h1 : Dn Sh.bool) (h2 : Dn Sh.bool) (h3 : Dn I) (h4 : Dn S_BatBatch) : St := mkS [(3, (AV.ptr 3 none [])), (4, (AV.val Sh.bool h0)), (5, (AV.val Sh.bool h1)), (8, (AV.val Sh.bool h2)), (9, (AV.val I h3))] [(3, (Ob.box S_BatBatch (AV.val S_BatBatch h4)))]
def h3_lFnBatGate (x0 : Dm (.imm L_u8)) (h0 : Dn Sh.bool) (h1 : Dn Sh.bool) (h2 : Dn Sh.bool) (h3 : Dn I) (h4 : Dn I) (h5 : Dn S_BatBatch) : St := mkS [(3, (AV.ptr 3 none [])), (4, (AV.val Sh.bool h0)), (5, (AV.val Sh.bool h1)), (8, (AV.val Sh.bool h2)), (9, (AV.val I h3)), (10, (AV.val I h4))] [(3, (Ob.box S_BatBatch (AV.val S_BatBatch h5)))]
def r_lFnBatGate := rounds (X_lFnBatGate g_c1 p_c1 g_d7 p_d7 g_d8 p_d8 g_bb p_bb g_dc g_d0 p_d0) Tryz.f5 R_lFnBatGate M_lFnBatGate
variable {g_c1 p_c1 g_d7 p_d7 g_d8 p_d8 g_bb p_bb g_dc g_d0 p_d0}
theorem ev_lFnBatGate (k : Nat) (x0 : Dm (.imm L_u8)) : E_lFnBatGate g_c1 p_c1 g_d7 p_d7 g_d8 p_d8 g_bb p_bb g_dc g_d0 p_d0 k (x0, ()) =
 (bif (decide ((1048576 : Int) < (List.length x0 : Int))) then (some (true, ())) else (cl (p_c1 (x0, ())) (g_c1 (x0, ())) fun y0 => (cl (p_d7 (y0.1, ())) (g_d7 (y0.1, ())) fun y1 => (cl (p_d8 (y0.1, ())) (g_d8 (y0.1, ())) fun y2 => (bif (bif (y1.1 == y2.1) then false else true) then (some (false, ())) else (cl (p_bb (y0.1, ())) (g_bb (y0.1, ())) fun y3 => (bif (bif y3.1 then false else true) then (bif (bif y1.1 then false else true) then (some ((g_dc ()).1, ())) else (some (false, ()))) else (r_lFnBatGate g_c1 p_c1 g_d7 p_d7 g_d8 p_d8 g_bb p_bb g_dc g_d0 p_d0 (x0, ()) k pt7 (h0_lFnBatGate x0 (y1.1) true (0 : Int) (y0.1)))))))))) := by kernel_rfl
theorem rd0_lFnBatGate (k : Nat) (x0 : Dm (.imm L_u8)) (h0 : Dn Sh.bool) (h1 : Dn Sh.bool) (h2 : Dn I) (h3 : Dn S_BatBatch) : r_lFnBatGate g_c1 p_c1 g_d7 p_d7 g_d8 p_d8 g_bb p_bb g_dc g_d0 p_d0 (x0, ()) (k + 1) pt7 (h0_lFnBatGate x0 h0 h1 h2 h3) =
 (bif (decide (h2 < (List.length h3.2.2.1 : Int))) then (bif h1 then (bif (bif (decide ((0 : Int) <= h2)) then (decide (h2 < (List.length h3.2.2.1 : Int))) else false) then (r_lFnBatGate g_c1 p_c1 g_d7 p_d7 g_d8 p_d8 g_bb p_bb g_dc g_d0 p_d0 (x0, ()) k pt7 (h0_lFnBatGate x0 h0 (decide ((rdL (e := S_TstTest) h3.2.2.1 h2).2.1 = (3 : Int))) (w64 (h2 + (1 : Int))) h3)) else none) else (r_lFnBatGate g_c1 p_c1 g_d7 p_d7 g_d8 p_d8 g_bb p_bb g_dc g_d0 p_d0 (x0, ()) k pt7 (h0_lFnBatGate x0 h0 false (w64 (h2 + (1 : Int))) h3))) else (r_lFnBatGate g_c1 p_c1 g_d7 p_d7 g_d8 p_d8 g_bb p_bb g_dc g_d0 p_d0 (x0, ()) k pt6 (h1_lFnBatGate x0 h0 h1 (0 : Int) h3))) := by kernel_rfl
theorem rd1_lFnBatGate (k : Nat) (x0 : Dm (.imm L_u8)) (h0 : Dn Sh.bool) (h1 : Dn Sh.bool) (h2 : Dn I) (h3 : Dn S_BatBatch) : r_lFnBatGate g_c1 p_c1 g_d7 p_d7 g_d8 p_d8 g_bb p_bb g_dc g_d0 p_d0 (x0, ()) (k + 1) pt6 (h1_lFnBatGate x0 h0 h1 h2 h3) =
 (bif (decide (h2 < (List.length h3.2.2.2.2.2 : Int))) then (bif h1 then (bif (bif (decide ((0 : Int) <= h2)) then (decide (h2 < (List.length h3.2.2.2.2.2 : Int))) else false) then (r_lFnBatGate g_c1 p_c1 g_d7 p_d7 g_d8 p_d8 g_bb p_bb g_dc g_d0 p_d0 (x0, ()) k pt6 (h1_lFnBatGate x0 h0 (bif (rdL (e := Sh.bool) h3.2.2.2.2.2 h2) then false else true) (w64 (h2 + (1 : Int))) h3)) else none) else (r_lFnBatGate g_c1 p_c1 g_d7 p_d7 g_d8 p_d8 g_bb p_bb g_dc g_d0 p_d0 (x0, ()) k pt6 (h1_lFnBatGate x0 h0 false (w64 (h2 + (1 : Int))) h3))) else (r_lFnBatGate g_c1 p_c1 g_d7 p_d7 g_d8 p_d8 g_bb p_bb g_dc g_d0 p_d0 (x0, ()) k pt11 (h2_lFnBatGate x0 h0 h1 false (0 : Int) h3))) := by kernel_rfl
theorem rd2_lFnBatGate (k : Nat) (x0 : Dm (.imm L_u8)) (h0 : Dn Sh.bool) (h1 : Dn Sh.bool) (h2 : Dn Sh.bool) (h3 : Dn I) (h4 : Dn S_BatBatch) : r_lFnBatGate g_c1 p_c1 g_d7 p_d7 g_d8 p_d8 g_bb p_bb g_dc g_d0 p_d0 (x0, ()) (k + 1) pt11 (h2_lFnBatGate x0 h0 h1 h2 h3 h4) =
 (bif (decide (h3 < (List.length h4.2.2.2.2.1 : Int))) then (r_lFnBatGate g_c1 p_c1 g_d7 p_d7 g_d8 p_d8 g_bb p_bb g_dc g_d0 p_d0 (x0, ()) k pt3 (h3_lFnBatGate x0 h0 h1 h2 h3 (0 : Int) h4)) else (bif h1 then (bif (h0 == h2) then (some ((g_dc ()).1, ())) else (some (false, ()))) else (bif (h0 == false) then (some ((g_dc ()).1, ())) else (some (false, ()))))) := by kernel_rfl
theorem rd3_lFnBatGate (k : Nat) (x0 : Dm (.imm L_u8)) (h0 : Dn Sh.bool) (h1 : Dn Sh.bool) (h2 : Dn Sh.bool) (h3 : Dn I) (h4 : Dn I) (h5 : Dn S_BatBatch) : r_lFnBatGate g_c1 p_c1 g_d7 p_d7 g_d8 p_d8 g_bb p_bb g_dc g_d0 p_d0 (x0, ()) (k + 1) pt3 (h3_lFnBatGate x0 h0 h1 h2 h3 h4 h5) =
 (bif (decide (h4 < (List.length h5.2.2.2.2.1 : Int))) then (bif (bif (decide ((0 : Int) <= h3)) then (decide (h3 < (List.length h5.2.2.2.2.1 : Int))) else false) then (bif (bif (decide ((0 : Int) <= h4)) then (decide (h4 < (List.length h5.2.2.2.2.1 : Int))) else false) then (bif h2 then (r_lFnBatGate g_c1 p_c1 g_d7 p_d7 g_d8 p_d8 g_bb p_bb g_dc g_d0 p_d0 (x0, ()) k pt3 (h3_lFnBatGate x0 h0 h1 true h3 (w64 (h4 + (1 : Int))) h5)) else (bif (decide ((rdL (e := S_BatSig) h5.2.2.2.2.1 h3).2.1 = (2 : Int))) then (bif (decide ((rdL (e := S_BatSig) h5.2.2.2.2.1 h4).2.1 = (3 : Int))) then (bif (bif (decide ((rdL (e := S_BatSig) h5.2.2.2.2.1 h3).1 = (rdL (e := S_BatSig) h5.2.2.2.2.1 h4).1)) then false else true) then (cl (p_d0 (h5, ())) (g_d0 (h5, ())) fun y0 => (bif (decide ((rdL (e := S_BatSig) h5.2.2.2.2.1 h3).2.2 = y0.1)) then (bif (p_d0 (h5, ())) then (r_lFnBatGate g_c1 p_c1 g_d7 p_d7 g_d8 p_d8 g_bb p_bb g_dc g_d0 p_d0 (x0, ()) k pt3 (h3_lFnBatGate x0 h0 h1 (decide ((rdL (e := S_BatSig) h5.2.2.2.2.1 h4).2.2 = y0.1)) h3 (w64 (h4 + (1 : Int))) h5)) else none) else (r_lFnBatGate g_c1 p_c1 g_d7 p_d7 g_d8 p_d8 g_bb p_bb g_dc g_d0 p_d0 (x0, ()) k pt3 (h3_lFnBatGate x0 h0 h1 false h3 (w64 (h4 + (1 : Int))) h5)))) else (r_lFnBatGate g_c1 p_c1 g_d7 p_d7 g_d8 p_d8 g_bb p_bb g_dc g_d0 p_d0 (x0, ()) k pt3 (h3_lFnBatGate x0 h0 h1 false h3 (w64 (h4 + (1 : Int))) h5))) else (r_lFnBatGate g_c1 p_c1 g_d7 p_d7 g_d8 p_d8 g_bb p_bb g_dc g_d0 p_d0 (x0, ()) k pt3 (h3_lFnBatGate x0 h0 h1 false h3 (w64 (h4 + (1 : Int))) h5))) else (r_lFnBatGate g_c1 p_c1 g_d7 p_d7 g_d8 p_d8 g_bb p_bb g_dc g_d0 p_d0 (x0, ()) k pt3 (h3_lFnBatGate x0 h0 h1 false h3 (w64 (h4 + (1 : Int))) h5)))) else none) else none) else (r_lFnBatGate g_c1 p_c1 g_d7 p_d7 g_d8 p_d8 g_bb p_bb g_dc g_d0 p_d0 (x0, ()) k pt11 (h2_lFnBatGate x0 h0 h1 h2 (w64 (h3 + (1 : Int))) h5))) := by kernel_rfl
theorem S_lFnBatGate (h_c1 : C_c1 p_c1 g_c1) (h_d7 : C_d7 p_d7 g_d7) (h_d8 : C_d8 p_d8 g_d8) (h_bb : C_bb p_bb g_bb) (h_dc : C_dc (fun _ => true) g_dc) (h_d0 : C_d0 p_d0 g_d0) {pre fn} (hev : Hq (E_lFnBatGate g_c1 p_c1 g_d7 p_d7 g_d8 p_d8 g_bb p_bb g_dc g_d0 p_d0) pre fn) : C_lFnBatGate pre fn := sound tysOk mixed (fn := Tryz.f5) rfl rfl rfl (.cons h_c1 (.cons h_d7 (.cons h_d8 (.cons h_bb (.cons h_dc (.cons h_d0 .nil)))))) _ hev
end
end
end Go.Proofs.YtddpemilmeijfaaGreat
