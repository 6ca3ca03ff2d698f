/- The functions of the seat, evaluated: equations, checked by the kernel. Made by a program. -/
import Derived.Test.YtddpemilmeijfaaGreatFnBatShutEq0
set_option linter.unusedVariables false
set_option maxRecDepth 100000
namespace Go.Proofs.YtddpemilmeijfaaGreat
open Go.Vm
noncomputable section
abbrev M_cw : Lm := [.imm L_TstTest, .clo 144 []]
abbrev R_cw : Lr := [(.imm, .bool)]
abbrev In_cw := Iq M_cw
abbrev Out_cw := Oq R_cw M_cw
abbrev C_cw := Cq 145 M_cw R_cw
section
variable (g_cv : In_cv -> Out_cv) (p_cv : In_cv -> Bool)
abbrev X_cw : Ctx := ctx tys 9 (conOf [(96, ⟨M_cv, R_cv, p_cv, g_cv⟩)]) (keepOf []) nF
abbrev E_cw := evFn (X_cw g_cv p_cv) Tryz.f145 R_cw M_cw
variable {g_cv p_cv}
theorem ev_cw (k : Nat) (x0 : Dm (.imm L_TstTest)) (x1 : Dm (.clo 144 [])) : E_cw g_cv p_cv k (x0, x1, ()) =
 (cl (p_cv (x0, ((), ()))) (g_cv (x0, ((), ()))) fun y0 => (some ((decide ((0 : Int) <= y0.1)), ()))) := by kernel_rfl
theorem S_cw (h_cv : C_cv p_cv g_cv) {pre fn} (hev : Hq (E_cw g_cv p_cv) pre fn) : C_cw pre fn := sound tysOk mixed (fn := Tryz.f145) rfl rfl rfl (.cons h_cv .nil) _ hev
end
abbrev M_cx : Lm := [.imm L_bool, .imm .bool]
abbrev R_cx : Lr := [(.imm, I)]
abbrev In_cx := Iq M_cx
abbrev Out_cx := Oq R_cx M_cx
abbrev C_cx := Cq 189 M_cx R_cx
abbrev X_cx : Ctx := ctx tys 19 (conOf []) (keepOf [(pt1, (⟨[(0, .asis), (1, .asis), (7, .asis), (8, .asis)], [], []⟩ : Keep))]) nF
abbrev E_cx := evFn X_cx Tryz.f189 R_cx M_cx
def h0_cx (x0 : Dm (.imm L_bool)) (x1 : Dm (.imm .bool)) (h0 : Dn I) (h1 : Dn I) : St := mkS [(0, (AV.val L_bool x0)), (1, (AV.val Sh.bool x1)), (7, (AV.val I h0)), (8, (AV.val I h1))] []
def r_cx := rounds X_cx Tryz.f189 R_cx M_cx
theorem ev_cx (k : Nat) (x0 : Dm (.imm L_bool)) (x1 : Dm (.imm .bool)) : E_cx k (x0, x1, ()) =
 (r_cx  (x0, x1, ()) k pt1 (h0_cx x0 x1 (List.length x0 : Int) (0 : Int))) := by kernel_rfl
theorem rd0_cx (k : Nat) (x0 : Dm (.imm L_bool)) (x1 : Dm (.imm .bool)) (h0 : Dn I) (h1 : Dn I) : r_cx  (x0, x1, ()) (k + 1) pt1 (h0_cx x0 x1 h0 h1) =
 (bif (decide (h1 < h0)) then (bif (bif (decide ((0 : Int) <= h1)) then (decide (h1 < (List.length x0 : Int))) else false) then (bif (x1 == (rdL (e := Sh.bool) x0 h1)) then (some (h1, ())) else (r_cx  (x0, x1, ()) k pt1 (h0_cx x0 x1 h0 (w64 (h1 + (1 : Int)))))) else none) else (some ((-1 : Int), ()))) := by kernel_rfl
theorem S_cx  {pre fn} (hev : Hq E_cx pre fn) : C_cx pre fn := sound tysOk mixed (fn := Tryz.f189) rfl rfl rfl ConsOk.nil _ hev
abbrev M_cy : Lm := [.imm L_bool, .imm .bool]
abbrev R_cy : Lr := [(.imm, .bool)]
abbrev In_cy := Iq M_cy
abbrev Out_cy := Oq R_cy M_cy
abbrev C_cy := Cq 146 M_cy R_cy
section
variable (g_cx : In_cx -> Out_cx) (p_cx : In_cx -> Bool)
abbrev X_cy : Ctx := ctx tys 9 (conOf [(189, ⟨M_cx, R_cx, p_cx, g_cx⟩)]) (keepOf []) nF
abbrev E_cy := evFn (X_cy g_cx p_cx) Tryz.f146 R_cy M_cy
variable {g_cx p_cx}
theorem ev_cy (k : Nat) (x0 : Dm (.imm L_bool)) (x1 : Dm (.imm .bool)) : E_cy g_cx p_cx k (x0, x1, ()) =
 (cl (p_cx (x0, (x1, ()))) (g_cx (x0, (x1, ()))) fun y0 => (some ((decide ((0 : Int) <= y0.1)), ()))) := by kernel_rfl
theorem S_cy (h_cx : C_cx p_cx g_cx) {pre fn} (hev : Hq (E_cy g_cx p_cx) pre fn) : C_cy pre fn := sound tysOk mixed (fn := Tryz.f146) rfl rfl rfl (.cons h_cx .nil) _ hev
end
abbrev M_cz : Lm := [.imm I, .imm L_int]
abbrev R_cz : Lr := [(.imm, I)]
abbrev In_cz := Iq M_cz
abbrev Out_cz := Oq R_cz M_cz
abbrev C_cz := Cq 82 M_cz R_cz
abbrev X_cz : Ctx := ctx tys 23 (conOf []) (keepOf [(pt1, (⟨[(0, .asis), (7, .asis), (8, .asis), (9, .asis)], [], []⟩ : Keep))]) nF
abbrev E_cz := evFn X_cz Tryz.f82 R_cz M_cz
def h0_cz (x0 : Dm (.imm I)) (x1 : Dm (.imm L_int)) (h0 : Dn I) (h1 : Dn I) (h2 : Dn I) : St := mkS [(0, (AV.val I h0)), (7, (AV.val L_int x1)), (8, (AV.val I h1)), (9, (AV.val I h2))] []
def r_cz := rounds X_cz Tryz.f82 R_cz M_cz
theorem ev_cz (k : Nat) (x0 : Dm (.imm I)) (x1 : Dm (.imm L_int)) : E_cz k (x0, x1, ()) =
 (r_cz  (x0, x1, ()) k pt1 (h0_cz x0 x1 x0 (List.length x1 : Int) (0 : Int))) := by kernel_rfl
theorem rd0_cz (k : Nat) (x0 : Dm (.imm I)) (x1 : Dm (.imm L_int)) (h0 : Dn I) (h1 : Dn I) (h2 : Dn I) : r_cz  (x0, x1, ()) (k + 1) pt1 (h0_cz x0 x1 h0 h1 h2) =
 (bif (decide (h2 < h1)) then (bif (bif (decide ((0 : Int) <= h2)) then (decide (h2 < (List.length x1 : Int))) else false) then (bif (bif (decide ((999983 : Int) = (0 : Int))) then false else true) then (bif (bif (decide ((999983 : Int) = (0 : Int))) then false else true) then (r_cz  (x0, x1, ()) k pt1 (h0_cz x0 x1 (Int.tmod (w64 ((w64 ((w64 ((w64 (h0 * (8191 : Int))) + (Int.tmod (rdL (e := I) x1 h2) (999983 : Int)))) + (999983 : Int))) + (7 : Int))) (999983 : Int)) h1 (w64 (h2 + (1 : Int))))) else none) else none) else none) else (some (h0, ()))) := by kernel_rfl
theorem S_cz  {pre fn} (hev : Hq E_cz pre fn) : C_cz pre fn := sound tysOk mixed (fn := Tryz.f82) rfl rfl rfl ConsOk.nil _ hev
abbrev M_d0 : Lm := [.imm S_BatBatch]
abbrev R_d0 : Lr := [(.imm, I)]
abbrev In_d0 := Iq M_d0
abbrev Out_d0 := Oq R_d0 M_d0
abbrev C_d0 := Cq 29 M_d0 R_d0
section
variable (g_cz : In_cz -> Out_cz) (p_cz : In_cz -> Bool)
abbrev X_d0 : Ctx := ctx tys 69 (conOf [(82, ⟨M_cz, R_cz, p_cz, g_cz⟩)]) (keepOf [(pt2, (⟨[(3, .asis), (51, .asis), (52, .asis), (53, .asis)], [], []⟩ : Keep)), (pt7, (⟨[(1, .asis), (3, .asis), (15, .asis), (16, .asis), (17, .asis), (35, .asis), (36, .asis), (37, .asis)], [(1, .asis)], []⟩ : Keep)), (pt0, (⟨[(1, .asis), (3, .asis), (15, .asis), (16, .asis), (17, .asis)], [(1, .asis)], []⟩ : Keep))]) nF
abbrev E_d0 := evFn (X_d0 g_cz p_cz) Tryz.f29 R_d0 M_d0
def h0_d0 (x0 : Dm (.imm S_BatBatch)) (h0 : Dn I) (h1 : Dn I) (h2 : Dn I) : St := mkS [(1, (AV.ptr 1 none [])), (3, (AV.val I h0)), (15, (AV.val L_TstTest x0.2.2.1)), (16, (AV.val I h1)), (17, (AV.val I h2))] [(1, (Ob.box S_BatBatch (AV.val S_BatBatch x0)))]
def h1_d0 (x0 : Dm (.imm S_BatBatch)) (h0 : Dn I) (h1 : Dn I) (h2 : Dn I) (h3 : Dn L_DecDec) (h4 : Dn I) (h5 : Dn I) : St := mkS [(1, (AV.ptr 1 none [])), (3, (AV.val I h0)), (15, (AV.val L_TstTest x0.2.2.1)), (16, (AV.val I h1)), (17, (AV.val I h2)), (35, (AV.val L_DecDec h3)), (36, (AV.val I h4)), (37, (AV.val I h5))] [(1, (Ob.box S_BatBatch (AV.val S_BatBatch x0)))]
def h2_d0 (x0 : Dm (.imm S_BatBatch)) (h0 : Dn I) (h1 : Dn I) (h2 : Dn I) : St := mkS [(3, (AV.val I h0)), (51, (AV.val L_bool x0.2.2.2.2.2)), (52, (AV.val I h1)), (53, (AV.val I h2))] []
def r_d0 := rounds (X_d0 g_cz p_cz) Tryz.f29 R_d0 M_d0
variable {g_cz p_cz}
theorem ev_d0 (k : Nat) (x0 : Dm (.imm S_BatBatch)) : E_d0 g_cz p_cz k (x0, ()) =
 (cl (p_cz ((1 : Int), ([x0.1], ()))) (g_cz ((1 : Int), ([x0.1], ()))) fun y0 => (r_d0 g_cz p_cz (x0, ()) k pt0 (h0_d0 x0 (y0.1) (List.length x0.2.2.1 : Int) (0 : Int)))) := by kernel_rfl
theorem rd0_d0 (k : Nat) (x0 : Dm (.imm S_BatBatch)) (h0 : Dn I) (h1 : Dn I) (h2 : Dn I) : r_d0 g_cz p_cz (x0, ()) (k + 1) pt0 (h0_d0 x0 h0 h1 h2) =
 (lt (rdL (e := S_TstTest) x0.2.2.1 h2) fun s0 => (bif (decide (h2 < h1)) then (bif (bif (decide ((0 : Int) <= h2)) then (decide (h2 < (List.length x0.2.2.1 : Int))) else false) then (cl (p_cz (h0, ([(s0.2.1), (s0.2.2.1.1), (s0.2.2.1.2), (s0.2.2.2.1)], ()))) (g_cz (h0, ([(s0.2.1), (s0.2.2.1.1), (s0.2.2.1.2), (s0.2.2.2.1)], ()))) fun y0 => (r_d0 g_cz p_cz (x0, ()) k pt7 (h1_d0 x0 (y0.1) h1 h2 (s0.2.2.2.2) (List.length s0.2.2.2.2 : Int) (0 : Int)))) else none) else (r_d0 g_cz p_cz (x0, ()) k pt2 (h2_d0 x0 h0 (List.length x0.2.2.2.2.2 : Int) (0 : Int))))) := by kernel_rfl
theorem rd1_d0 (k : Nat) (x0 : Dm (.imm S_BatBatch)) (h0 : Dn I) (h1 : Dn I) (h2 : Dn I) (h3 : Dn L_DecDec) (h4 : Dn I) (h5 : Dn I) : r_d0 g_cz p_cz (x0, ()) (k + 1) pt7 (h1_d0 x0 h0 h1 h2 h3 h4 h5) =
 (bif (decide (h5 < h4)) then (bif (bif (decide ((0 : Int) <= h5)) then (decide (h5 < (List.length h3 : Int))) else false) then (cl (p_cz (h0, ([((rdL (e := S_DecDec) h3 h5).1), ((rdL (e := S_DecDec) h3 h5).2)], ()))) (g_cz (h0, ([((rdL (e := S_DecDec) h3 h5).1), ((rdL (e := S_DecDec) h3 h5).2)], ()))) fun y0 => (r_d0 g_cz p_cz (x0, ()) k pt7 (h1_d0 x0 (y0.1) h1 h2 h3 h4 (w64 (h5 + (1 : Int)))))) else none) else (r_d0 g_cz p_cz (x0, ()) k pt0 (h0_d0 x0 h0 h1 (w64 (h2 + (1 : Int)))))) := by kernel_rfl
theorem rd2_d0 (k : Nat) (x0 : Dm (.imm S_BatBatch)) (h0 : Dn I) (h1 : Dn I) (h2 : Dn I) : r_d0 g_cz p_cz (x0, ()) (k + 1) pt2 (h2_d0 x0 h0 h1 h2) =
 (bif (decide (h2 < h1)) then (bif (bif (decide ((0 : Int) <= h2)) then (decide (h2 < (List.length x0.2.2.2.2.2 : Int))) else false) then (cl (p_cz (h0, ([(w64 (h2 + (1 : Int)))], ()))) (g_cz (h0, ([(w64 (h2 + (1 : Int)))], ()))) fun y0 => (bif (rdL (e := Sh.bool) x0.2.2.2.2.2 h2) then (cl (p_cz (y0.1, ([(77 : Int)], ()))) (g_cz (y0.1, ([(77 : Int)], ()))) fun y1 => (r_d0 g_cz p_cz (x0, ()) k pt2 (h2_d0 x0 (y1.1) h1 (w64 (h2 + (1 : Int)))))) else (r_d0 g_cz p_cz (x0, ()) k pt2 (h2_d0 x0 (y0.1) h1 (w64 (h2 + (1 : Int))))))) else none) else (some (h0, ()))) := by kernel_rfl
theorem S_d0 (h_cz : C_cz p_cz g_cz) {pre fn} (hev : Hq (E_d0 g_cz p_cz) pre fn) : C_d0 pre fn := sound tysOk mixed (fn := Tryz.f29) rfl rfl rfl (.cons h_cz .nil) _ hev
end
abbrev M_d1 : Lm := [.imm S_BatBatch, .imm I, .imm I]
abbrev R_d1 : Lr := [(.imm, I)]
abbrev In_d1 := Iq M_d1
abbrev Out_d1 := Oq R_d1 M_d1
abbrev C_d1 := Cq 33 M_d1 R_d1
section
variable (g_d0 : In_d0 -> Out_d0) (p_d0 : In_d0 -> Bool)
abbrev X_d1 : Ctx := ctx tys 38 (conOf [(29, ⟨M_d0, R_d0, p_d0, g_d0⟩)]) (keepOf [(pt0, (⟨[(1, .asis), (2, .asis), (7, .asis), (13, .asis), (14, .asis), (15, .asis)], [], []⟩ : Keep))]) nF
abbrev E_d1 := evFn (X_d1 g_d0 p_d0) Tryz.f33 R_d1 M_d1
def h0_d1 (x0 : Dm (.imm S_BatBatch)) (x1 : Dm (.imm I)) (x2 : Dm (.imm I)) (h0 : Dn I) (h1 : Dn I) (h2 : Dn I) : St := mkS [(1, (AV.val I x1)), (2, (AV.val I x2)), (7, (AV.val I h0)), (13, (AV.val L_BatSig x0.2.2.2.2.1)), (14, (AV.val I h1)), (15, (AV.val I h2))] []
def r_d1 := rounds (X_d1 g_d0 p_d0) Tryz.f33 R_d1 M_d1
variable {g_d0 p_d0}
theorem ev_d1 (k : Nat) (x0 : Dm (.imm S_BatBatch)) (x1 : Dm (.imm I)) (x2 : Dm (.imm I)) : E_d1 g_d0 p_d0 k (x0, x1, x2, ()) =
 (cl (p_d0 (x0, ())) (g_d0 (x0, ())) fun y0 => (r_d1 g_d0 p_d0 (x0, x1, x2, ()) k pt0 (h0_d1 x0 x1 x2 (y0.1) (List.length x0.2.2.2.2.1 : Int) (0 : Int)))) := by kernel_rfl
theorem rd0_d1 (k : Nat) (x0 : Dm (.imm S_BatBatch)) (x1 : Dm (.imm I)) (x2 : Dm (.imm I)) (h0 : Dn I) (h1 : Dn I) (h2 : Dn I) : r_d1 g_d0 p_d0 (x0, x1, x2, ()) (k + 1) pt0 (h0_d1 x0 x1 x2 h0 h1 h2) =
 (bif (decide (h2 < h1)) then (bif (bif (decide ((0 : Int) <= h2)) then (decide (h2 < (List.length x0.2.2.2.2.1 : Int))) else false) then (bif (decide ((rdL (e := S_BatSig) x0.2.2.2.2.1 h2).2.1 = x1)) then (bif (decide ((rdL (e := S_BatSig) x0.2.2.2.2.1 h2).2.2 = h0)) then (bif (bif (decide ((rdL (e := S_BatSig) x0.2.2.2.2.1 h2).1 = x2)) then false else true) then (some ((rdL (e := S_BatSig) x0.2.2.2.2.1 h2).1, ())) else (r_d1 g_d0 p_d0 (x0, x1, x2, ()) k pt0 (h0_d1 x0 x1 x2 h0 h1 (w64 (h2 + (1 : Int)))))) else (r_d1 g_d0 p_d0 (x0, x1, x2, ()) k pt0 (h0_d1 x0 x1 x2 h0 h1 (w64 (h2 + (1 : Int)))))) else (r_d1 g_d0 p_d0 (x0, x1, x2, ()) k pt0 (h0_d1 x0 x1 x2 h0 h1 (w64 (h2 + (1 : Int)))))) else none) else (some ((0 : Int), ()))) := by kernel_rfl
theorem S_d1 (h_d0 : C_d0 p_d0 g_d0) {pre fn} (hev : Hq (E_d1 g_d0 p_d0) pre fn) : C_d1 pre fn := sound tysOk mixed (fn := Tryz.f33) rfl rfl rfl (.cons h_d0 .nil) _ hev
end
abbrev M_d2 : Lm := [.imm S_BatSig, .pR I, .pR S_BatBatch]
abbrev R_d2 : Lr := [(.imm, .bool)]
abbrev In_d2 := Iq M_d2
abbrev Out_d2 := Oq R_d2 M_d2
abbrev C_d2 := Cq 147 M_d2 R_d2
section
variable (g_d1 : In_d1 -> Out_d1) (p_d1 : In_d1 -> Bool)
abbrev X_d2 : Ctx := ctx tys 21 (conOf [(33, ⟨M_d1, R_d1, p_d1, g_d1⟩)]) (keepOf []) nF
abbrev E_d2 := evFn (X_d2 g_d1 p_d1) Tryz.f147 R_d2 M_d2
variable {g_d1 p_d1}
theorem ev_d2 (k : Nat) (x0 : Dm (.imm S_BatSig)) (x1 : Dm (.pR I)) (x2 : Dm (.pR S_BatBatch)) : E_d2 g_d1 p_d1 k (x0, x1, x2, ()) =
 (bif (decide (x0.2.1 = (2 : Int))) then (bif (decide (x0.2.2 = x1)) then (cl (p_d1 (x2, ((3 : Int), (x0.1, ())))) (g_d1 (x2, ((3 : Int), (x0.1, ())))) fun y0 => (some ((decide ((0 : Int) < y0.1)), ()))) else (some (false, ()))) else (some (false, ()))) := by kernel_rfl
theorem S_d2 (h_d1 : C_d1 p_d1 g_d1) {pre fn} (hev : Hq (E_d2 g_d1 p_d1) pre fn) : C_d2 pre fn := sound tysOk mixed (fn := Tryz.f147) rfl rfl rfl (.cons h_d1 .nil) _ hev
end
abbrev M_d3 : Lm := [.imm L_BatSig, .clo 147 [I, S_BatBatch]]
abbrev R_d3 : Lr := [(.imm, I)]
abbrev In_d3 := Iq M_d3
abbrev Out_d3 := Oq R_d3 M_d3
abbrev C_d3 := Cq 158 M_d3 R_d3
section
variable (g_d2 : In_d2 -> Out_d2) (p_d2 : In_d2 -> Bool)
abbrev X_d3 : Ctx := ctx tys 19 (conOf [(147, ⟨M_d2, R_d2, p_d2, g_d2⟩)]) (keepOf [(pt1, (⟨[(0, .asis), (1, .asis), (7, .asis), (8, .asis)], [(1000005000, .asis), (1000005001, .asis)], []⟩ : Keep))]) nF
abbrev E_d3 := evFn (X_d3 g_d2 p_d2) Tryz.f158 R_d3 M_d3
def h0_d3 (x0 : Dm (.imm L_BatSig)) (x1 : Dm (.clo 147 [I, S_BatBatch])) (h0 : Dn I) (h1 : Dn I) : St := mkS [(0, (AV.val L_BatSig x0)), (1, (AV.fn 147 [1000005000, 1000005001])), (7, (AV.val I h0)), (8, (AV.val I h1))] [(1000005000, (Ob.cbox I x1.1)), (1000005001, (Ob.cbox S_BatBatch x1.2.1))]
def r_d3 := rounds (X_d3 g_d2 p_d2) Tryz.f158 R_d3 M_d3
variable {g_d2 p_d2}
theorem ev_d3 (k : Nat) (x0 : Dm (.imm L_BatSig)) (x1 : Dm (.clo 147 [I, S_BatBatch])) : E_d3 g_d2 p_d2 k (x0, x1, ()) =
 (r_d3 g_d2 p_d2 (x0, x1, ()) k pt1 (h0_d3 x0 x1 (List.length x0 : Int) (0 : Int))) := by kernel_rfl
theorem rd0_d3 (k : Nat) (x0 : Dm (.imm L_BatSig)) (x1 : Dm (.clo 147 [I, S_BatBatch])) (h0 : Dn I) (h1 : Dn I) : r_d3 g_d2 p_d2 (x0, x1, ()) (k + 1) pt1 (h0_d3 x0 x1 h0 h1) =
 (bif (decide (h1 < h0)) then (bif (bif (decide ((0 : Int) <= h1)) then (decide (h1 < (List.length x0 : Int))) else false) then (cl (p_d2 ((rdL (e := S_BatSig) x0 h1), (x1.1, (x1.2.1, ())))) (g_d2 ((rdL (e := S_BatSig) x0 h1), (x1.1, (x1.2.1, ())))) fun y0 => (bif y0.1 then (some (h1, ())) else (r_d3 g_d2 p_d2 (x0, x1, ()) k pt1 (h0_d3 x0 x1 h0 (w64 (h1 + (1 : Int))))))) else none) else (some ((-1 : Int), ()))) := by kernel_rfl
theorem S_d3 (h_d2 : C_d2 p_d2 g_d2) {pre fn} (hev : Hq (E_d3 g_d2 p_d2) pre fn) : C_d3 pre fn := sound tysOk mixed (fn := Tryz.f158) rfl rfl rfl (.cons h_d2 .nil) _ hev
end
abbrev M_d4 : Lm := [.imm L_BatSig, .clo 147 [I, S_BatBatch]]
abbrev R_d4 : Lr := [(.imm, .bool)]
abbrev In_d4 := Iq M_d4
abbrev Out_d4 := Oq R_d4 M_d4
abbrev C_d4 := Cq 91 M_d4 R_d4
section
variable (g_d3 : In_d3 -> Out_d3) (p_d3 : In_d3 -> Bool)
abbrev X_d4 : Ctx := ctx tys 9 (conOf [(158, ⟨M_d3, R_d3, p_d3, g_d3⟩)]) (keepOf []) nF
abbrev E_d4 := evFn (X_d4 g_d3 p_d3) Tryz.f91 R_d4 M_d4
variable {g_d3 p_d3}
theorem ev_d4 (k : Nat) (x0 : Dm (.imm L_BatSig)) (x1 : Dm (.clo 147 [I, S_BatBatch])) : E_d4 g_d3 p_d3 k (x0, x1, ()) =
 (cl (p_d3 (x0, ((x1.1, (x1.2.1, ())), ()))) (g_d3 (x0, ((x1.1, (x1.2.1, ())), ()))) fun y0 => (some ((decide ((0 : Int) <= y0.1)), ()))) := by kernel_rfl
theorem S_d4 (h_d3 : C_d3 p_d3 g_d3) {pre fn} (hev : Hq (E_d4 g_d3 p_d3) pre fn) : C_d4 pre fn := sound tysOk mixed (fn := Tryz.f91) rfl rfl rfl (.cons h_d3 .nil) _ hev
end
abbrev M_d5 : Lm := [.imm S_BatBatch]
abbrev R_d5 : Lr := [(.imm, .bool)]
abbrev In_d5 := Iq M_d5
abbrev Out_d5 := Oq R_d5 M_d5
abbrev C_d5 := Cq 79 M_d5 R_d5
section
variable (g_cw : In_cw -> Out_cw) (p_cw : In_cw -> Bool) (g_cy : In_cy -> Out_cy) (p_cy : In_cy -> Bool) (g_d0 : In_d0 -> Out_d0) (p_d0 : In_d0 -> Bool) (g_d4 : In_d4 -> Out_d4) (p_d4 : In_d4 -> Bool)
abbrev X_d5 : Ctx := ctx tys 20 (conOf [(145, ⟨M_cw, R_cw, p_cw, g_cw⟩), (146, ⟨M_cy, R_cy, p_cy, g_cy⟩), (29, ⟨M_d0, R_d0, p_d0, g_d0⟩), (91, ⟨M_d4, R_d4, p_d4, g_d4⟩)]) (keepOf []) nF
abbrev E_d5 := evFn (X_d5 g_cw p_cw g_cy p_cy g_d0 p_d0 g_d4 p_d4) Tryz.f79 R_d5 M_d5
variable {g_cw p_cw g_cy p_cy g_d0 p_d0 g_d4 p_d4}
theorem ev_d5 (k : Nat) (x0 : Dm (.imm S_BatBatch)) : E_d5 g_cw p_cw g_cy p_cy g_d0 p_d0 g_d4 p_d4 k (x0, ()) =
 (cl (p_cw (x0.2.2.1, ((), ()))) (g_cw (x0.2.2.1, ((), ()))) fun y0 => (bif y0.1 then (some (false, ())) else (cl (p_cy (x0.2.2.2.2.2, (true, ()))) (g_cy (x0.2.2.2.2.2, (true, ()))) fun y1 => (bif y1.1 then (some (false, ())) else (cl (p_d0 (x0, ())) (g_d0 (x0, ())) fun y2 => (cl (p_d4 (x0.2.2.2.2.1, ((y2.1, (x0, ())), ()))) (g_d4 (x0.2.2.2.2.1, ((y2.1, (x0, ())), ()))) fun y3 => (some (y3.1, ())))))))) := by kernel_rfl
theorem S_d5 (h_cw : C_cw p_cw g_cw) (h_cy : C_cy p_cy g_cy) (h_d0 : C_d0 p_d0 g_d0) (h_d4 : C_d4 p_d4 g_d4) {pre fn} (hev : Hq (E_d5 g_cw p_cw g_cy p_cy g_d0 p_d0 g_d4 p_d4) pre fn) : C_d5 pre fn := sound tysOk mixed (fn := Tryz.f79) rfl rfl rfl (.cons h_cw (.cons h_cy (.cons h_d0 (.cons h_d4 .nil)))) _ hev
end
abbrev M_d6 : Lm := [.imm S_BatBatch]
abbrev R_d6 : Lr := [(.imm, .bool)]
abbrev In_d6 := Iq M_d6
abbrev Out_d6 := Oq R_d6 M_d6
abbrev C_d6 := Cq 34 M_d6 R_d6
section
variable (g_iin : In_iin -> Out_iin) (g_cn : In_cn -> Out_cn) (p_cn : In_cn -> Bool) (g_ct : In_ct -> Out_ct) (p_ct : In_ct -> Bool) (g_d5 : In_d5 -> Out_d5) (p_d5 : In_d5 -> Bool)
abbrev X_d6 : Ctx := ctx tys 87 (conOf [(65, ⟨M_iin, R_iin, fun _ => true, g_iin⟩), (88, ⟨M_cn, R_cn, p_cn, g_cn⟩), (91, ⟨M_ct, R_ct, p_ct, g_ct⟩), (79, ⟨M_d5, R_d5, p_d5, g_d5⟩)]) (keepOf [(pt0, (⟨[(1, .asis), (30, .asis), (31, .asis), (32, .asis)], [(1, .asis)], []⟩ : Keep))]) nF
abbrev E_d6 := evFn (X_d6 g_iin g_cn p_cn g_ct p_ct g_d5 p_d5) Tryz.f34 R_d6 M_d6
def h0_d6 (x0 : Dm (.imm S_BatBatch)) (h0 : Dn I) (h1 : Dn I) : St := mkS [(1, (AV.ptr 1 none [])), (30, (AV.val L_TstTest x0.2.2.1)), (31, (AV.val I h0)), (32, (AV.val I h1))] [(1, (Ob.box S_BatBatch (AV.val S_BatBatch x0)))]
def r_d6 := rounds (X_d6 g_iin g_cn p_cn g_ct p_ct g_d5 p_d5) Tryz.f34 R_d6 M_d6
variable {g_iin g_cn p_cn g_ct p_ct g_d5 p_d5}
theorem ev_d6 (k : Nat) (x0 : Dm (.imm S_BatBatch)) : E_d6 g_iin g_cn p_cn g_ct p_ct g_d5 p_d5 k (x0, ()) =
 (bif (bif (g_iin (x0.1, ((0 : Int), ((5 : Int), ())))).1 then false else true) then (some (false, ())) else (bif (bif (g_iin (x0.2.1, ((1 : Int), ((10000 : Int), ())))).1 then false else true) then (some (false, ())) else (bif (bif (g_iin ((List.length x0.2.2.1 : Int), ((1 : Int), ((4 : Int), ())))).1 then false else true) then (some (false, ())) else (bif (bif (g_iin (x0.2.2.2.1, ((1 : Int), ((4 : Int), ())))).1 then false else true) then (some (false, ())) else (r_d6 g_iin g_cn p_cn g_ct p_ct g_d5 p_d5 (x0, ()) k pt0 (h0_d6 x0 (List.length x0.2.2.1 : Int) (0 : Int))))))) := by kernel_rfl
theorem rd0_d6 (k : Nat) (x0 : Dm (.imm S_BatBatch)) (h0 : Dn I) (h1 : Dn I) : r_d6 g_iin g_cn p_cn g_ct p_ct g_d5 p_d5 (x0, ()) (k + 1) pt0 (h0_d6 x0 h0 h1) =
 (lt (rdL (e := S_TstTest) x0.2.2.1 h1) fun s1 => (lt (w64 (h1 - (1 : Int))) fun s0 => (bif (decide (h1 < h0)) then (bif (bif (decide ((0 : Int) <= h1)) then (decide (h1 < (List.length x0.2.2.1 : Int))) else false) then (cl (p_cn (s1, ())) (g_cn (s1, ())) fun y0 => (bif (bif y0.1 then false else true) then (some (false, ())) else (bif (decide ((0 : Int) < h1)) then (bif (bif (decide ((0 : Int) <= s0)) then (decide (s0 < (List.length x0.2.2.1 : Int))) else false) then (bif (decide (s1.1.1 <= (rdL (e := S_TstTest) x0.2.2.1 s0).1.1)) then (some (false, ())) else (r_d6 g_iin g_cn p_cn g_ct p_ct g_d5 p_d5 (x0, ()) k pt0 (h0_d6 x0 h0 (w64 (h1 + (1 : Int)))))) else none) else (r_d6 g_iin g_cn p_cn g_ct p_ct g_d5 p_d5 (x0, ()) k pt0 (h0_d6 x0 h0 (w64 (h1 + (1 : Int)))))))) else none) else (bif (decide ((6 : Int) < (List.length x0.2.2.2.2.1 : Int))) then (some (false, ())) else (cl (p_ct (x0.2.2.2.2.1, ((), ()))) (g_ct (x0.2.2.2.2.1, ((), ()))) fun y1 => (bif y1.1 then (some (false, ())) else (bif (decide ((3 : Int) < (List.length x0.2.2.2.2.2 : Int))) then (some (false, ())) else (bif (bif (decide (x0.2.2.2.1 = (2 : Int))) then false else true) then (bif (bif (decide (x0.2.2.2.1 = (4 : Int))) then false else true) then (some (true, ())) else (cl (p_d5 (x0, ())) (g_d5 (x0, ())) fun y2 => (some (y2.1, ())))) else (cl (p_d5 (x0, ())) (g_d5 (x0, ())) fun y3 => (some (y3.1, ()))))))))))) := by kernel_rfl
theorem S_d6 (h_iin : C_iin (fun _ => true) g_iin) (h_cn : C_cn p_cn g_cn) (h_ct : C_ct p_ct g_ct) (h_d5 : C_d5 p_d5 g_d5) {pre fn} (hev : Hq (E_d6 g_iin g_cn p_cn g_ct p_ct g_d5 p_d5) pre fn) : C_d6 pre fn := sound tysOk mixed (fn := Tryz.f34) rfl rfl rfl (.cons h_iin (.cons h_cn (.cons h_ct (.cons h_d5 .nil)))) _ hev
end
abbrev M_d7 : Lm := [.imm I]
abbrev R_d7 : Lr := [(.imm, .bool)]
abbrev In_d7 := Iq M_d7
abbrev Out_d7 := Oq R_d7 M_d7
abbrev C_d7 := Cq 185 M_d7 R_d7
abbrev X_d7 : Ctx := ctx tys 16 (conOf []) (keepOf []) nF
abbrev E_d7 := evFn X_d7 Tryz.f185 R_d7 M_d7
theorem ev_d7 (k : Nat) (x0 : Dm (.imm I)) : E_d7 k (x0, ()) =
 (bif (bif (decide ((4 : Int) = (0 : Int))) then false else true) then (bif (decide ((Int.tmod x0 (4 : Int)) = (0 : Int))) then (bif (bif (decide ((100 : Int) = (0 : Int))) then false else true) then (bif (bif (decide ((Int.tmod x0 (100 : Int)) = (0 : Int))) then false else true) then (some (true, ())) else (bif (bif (decide ((400 : Int) = (0 : Int))) then false else true) then (some ((decide ((Int.tmod x0 (400 : Int)) = (0 : Int))), ())) else none)) else none) else (some (false, ()))) else none) := by kernel_rfl
theorem S_d7  {pre fn} (hev : Hq E_d7 pre fn) : C_d7 pre fn := sound tysOk mixed (fn := Tryz.f185) rfl rfl rfl ConsOk.nil _ hev
abbrev M_d8 : Lm := [.imm I, .imm I]
abbrev R_d8 : Lr := [(.imm, I)]
abbrev In_d8 := Iq M_d8
abbrev Out_d8 := Oq R_d8 M_d8
abbrev C_d8 := Cq 137 M_d8 R_d8
section
variable (g_iin : In_iin -> Out_iin) (g_d7 : In_d7 -> Out_d7)
abbrev X_d8 : Ctx := ctx tys 20 (conOf [(65, ⟨M_iin, R_iin, fun _ => true, g_iin⟩), (185, ⟨M_d7, R_d7, fun _ => true, g_d7⟩)]) (keepOf []) nF
abbrev E_d8 := evFn (X_d8 g_iin g_d7) Tryz.f137 R_d8 M_d8
variable {g_iin g_d7}
theorem ev_d8 (k : Nat) (x0 : Dm (.imm I)) (x1 : Dm (.imm I)) : E_d8 g_iin g_d7 k (x0, x1, ()) =
 (bif (bif (g_iin (x1, ((1 : Int), ((12 : Int), ())))).1 then false else true) then (some ((0 : Int), ())) else (bif (decide (x1 = (2 : Int))) then (bif (g_d7 (x0, ())).1 then (some ((29 : Int), ())) else none) else none)) := by kernel_rfl
theorem S_d8 (h_iin : C_iin (fun _ => true) g_iin) (h_d7 : C_d7 (fun _ => true) g_d7) {pre fn} (hev : Hq (E_d8 g_iin g_d7) pre fn) : C_d8 pre fn := sound tysOk mixed (fn := Tryz.f137) rfl rfl rfl (.cons h_iin (.cons h_d7 .nil)) _ hev
end
abbrev M_d9 : Lm := [.imm S_BatSig]
abbrev R_d9 : Lr := [(.imm, .bool)]
abbrev In_d9 := Iq M_d9
abbrev Out_d9 := Oq R_d9 M_d9
abbrev C_d9 := Cq 64 M_d9 R_d9
section
variable (g_iin : In_iin -> Out_iin) (g_d8 : In_d8 -> Out_d8) (p_d8 : In_d8 -> Bool)
abbrev X_d9 : Ctx := ctx tys 16 (conOf [(65, ⟨M_iin, R_iin, fun _ => true, g_iin⟩), (137, ⟨M_d8, R_d8, p_d8, g_d8⟩)]) (keepOf []) nF
abbrev E_d9 := evFn (X_d9 g_iin g_d8 p_d8) Tryz.f64 R_d9 M_d9
variable {g_iin g_d8 p_d8}
theorem ev_d9 (k : Nat) (x0 : Dm (.imm S_BatSig)) : E_d9 g_iin g_d8 p_d8 k (x0, ()) =
 (bif (g_iin (x0.1, ((1900 : Int), ((2199 : Int), ())))).1 then (bif (p_d8 (x0.1, (x0.2.1, ()))) then (some ((g_iin (x0.2.2, ((1 : Int), ((g_d8 (x0.1, (x0.2.1, ()))).1, ())))).1, ())) else none) else (some (false, ()))) := by kernel_rfl
theorem S_d9 (h_iin : C_iin (fun _ => true) g_iin) (h_d8 : C_d8 p_d8 g_d8) {pre fn} (hev : Hq (E_d9 g_iin g_d8 p_d8) pre fn) : C_d9 pre fn := sound tysOk mixed (fn := Tryz.f64) rfl rfl rfl (.cons h_iin (.cons h_d8 .nil)) _ hev
end
abbrev M_da : Lm := []
abbrev R_da : Lr := [(.imm, .bool)]
abbrev In_da := Iq M_da
abbrev Out_da := Oq R_da M_da
abbrev C_da := Cq 19 M_da R_da
section
variable (g_d9 : In_d9 -> Out_d9) (p_d9 : In_d9 -> Bool)
abbrev X_da : Ctx := ctx tys 3 (conOf [(64, ⟨M_d9, R_d9, p_d9, g_d9⟩)]) (keepOf []) nF
abbrev E_da := evFn (X_da g_d9 p_d9) Tryz.f19 R_da M_da
variable {g_d9 p_d9}
theorem ev_da (k : Nat)  : E_da g_d9 p_d9 k (()) =
 (bif (p_d9 (((2000 : Int), ((2 : Int), (29 : Int))), ())) then (some ((g_d9 (((2000 : Int), ((2 : Int), (29 : Int))), ())).1, ())) else none) := by kernel_rfl
theorem S_da (h_d9 : C_d9 p_d9 g_d9) {pre fn} (hev : Hq (E_da g_d9 p_d9) pre fn) : C_da pre fn := sound tysOk mixed (fn := Tryz.f19) rfl rfl rfl (.cons h_d9 .nil) _ hev
end
abbrev M_db : Lm := [.imm L_DecDec]
abbrev R_db : Lr := [(.own, L_DecDec)]
abbrev In_db := Iq M_db
abbrev Out_db := Oq R_db M_db
abbrev C_db := Cq 198 M_db R_db
abbrev X_db : Ctx := ctx tys 8 (conOf []) (keepOf []) nF
abbrev E_db := evFn X_db Tryz.f198 R_db M_db
theorem ev_db (k : Nat) (x0 : Dm (.imm L_DecDec)) : E_db k (x0, ()) =
 (bif (List.isEmpty x0) then (agree (some ([], ())) (bif (fitL [] x0) then (some ((List.append [] x0), ())) else none)) else (bif (fitL [] x0) then (some ((List.append [] x0), ())) else none)) := by kernel_rfl
theorem S_db  {pre fn} (hev : Hq E_db pre fn) : C_db pre fn := sound tysOk mixed (fn := Tryz.f198) rfl rfl rfl ConsOk.nil _ hev
abbrev M_dc : Lm := [.imm S_TstTest]
abbrev R_dc : Lr := [(.own, S_TstTest)]
abbrev In_dc := Iq M_dc
abbrev Out_dc := Oq R_dc M_dc
abbrev C_dc := Cq 163 M_dc R_dc
section
variable (g_db : In_db -> Out_db) (p_db : In_db -> Bool)
abbrev X_dc : Ctx := ctx tys 8 (conOf [(198, ⟨M_db, R_db, p_db, g_db⟩)]) (keepOf []) nF
abbrev E_dc := evFn (X_dc g_db p_db) Tryz.f163 R_dc M_dc
variable {g_db p_db}
theorem ev_dc (k : Nat) (x0 : Dm (.imm S_TstTest)) : E_dc g_db p_db k (x0, ()) =
 (cl (p_db (x0.2.2.2.2, ())) (g_db (x0.2.2.2.2, ())) fun y0 => (some ((x0.1, (x0.2.1, (x0.2.2.1, (x0.2.2.2.1, y0.1)))), ()))) := by kernel_rfl
theorem S_dc (h_db : C_db p_db g_db) {pre fn} (hev : Hq (E_dc g_db p_db) pre fn) : C_dc pre fn := sound tysOk mixed (fn := Tryz.f163) rfl rfl rfl (.cons h_db .nil) _ hev
end
abbrev M_dd : Lm := [.imm L_BatSig]
abbrev R_dd : Lr := [(.own, L_BatSig)]
abbrev In_dd := Iq M_dd
abbrev Out_dd := Oq R_dd M_dd
abbrev C_dd := Cq 164 M_dd R_dd
abbrev X_dd : Ctx := ctx tys 8 (conOf []) (keepOf []) nF
abbrev E_dd := evFn X_dd Tryz.f164 R_dd M_dd
theorem ev_dd (k : Nat) (x0 : Dm (.imm L_BatSig)) : E_dd k (x0, ()) =
 (bif (List.isEmpty x0) then (agree (some ([], ())) (bif (fitL [] x0) then (some ((List.append [] x0), ())) else none)) else (bif (fitL [] x0) then (some ((List.append [] x0), ())) else none)) := by kernel_rfl
theorem S_dd  {pre fn} (hev : Hq E_dd pre fn) : C_dd pre fn := sound tysOk mixed (fn := Tryz.f164) rfl rfl rfl ConsOk.nil _ hev
abbrev M_de : Lm := [.imm L_bool]
abbrev R_de : Lr := [(.own, L_bool)]
abbrev In_de := Iq M_de
abbrev Out_de := Oq R_de M_de
abbrev C_de := Cq 165 M_de R_de
abbrev X_de : Ctx := ctx tys 8 (conOf []) (keepOf []) nF
abbrev E_de := evFn X_de Tryz.f165 R_de M_de
theorem ev_de (k : Nat) (x0 : Dm (.imm L_bool)) : E_de k (x0, ()) =
 (bif (List.isEmpty x0) then (agree (some ([], ())) (bif (fitL [] x0) then (some ((List.append [] x0), ())) else none)) else (bif (fitL [] x0) then (some ((List.append [] x0), ())) else none)) := by kernel_rfl
theorem S_de  {pre fn} (hev : Hq E_de pre fn) : C_de pre fn := sound tysOk mixed (fn := Tryz.f165) rfl rfl rfl ConsOk.nil _ hev
abbrev M_df : Lm := [.imm S_BatBatch]
abbrev R_df : Lr := [(.own, S_BatBatch)]
abbrev In_df := Iq M_df
abbrev Out_df := Oq R_df M_df
abbrev C_df := Cq 104 M_df R_df
section
variable (g_dc : In_dc -> Out_dc) (p_dc : In_dc -> Bool) (g_dd : In_dd -> Out_dd) (p_dd : In_dd -> Bool) (g_de : In_de -> Out_de) (p_de : In_de -> Bool)
abbrev X_df : Ctx := ctx tys 30 (conOf [(163, ⟨M_dc, R_dc, p_dc, g_dc⟩), (164, ⟨M_dd, R_dd, p_dd, g_dd⟩), (165, ⟨M_de, R_de, p_de, g_de⟩)]) (keepOf [(pt0, (⟨[(1, .asis), (2, .asis), (3, .own), (7, .asis), (8, .asis), (9, .asis)], [(1, .asis), (2, (.pair .asis (.pair .asis (.pair .own (.pair .asis (.pair .own .own))))))], []⟩ : Keep))]) nF
abbrev E_df := evFn (X_df g_dc p_dc g_dd p_dd g_de p_de) Tryz.f104 R_df M_df
def h0_df (x0 : Dm (.imm S_BatBatch)) (h0 : Dn I) (h1 : Dn I) (h2 : Dn I) (h3 : Dn I) (h4 : Dn I) (h5 : (List (Dn S_TstTest))) (h6 : (List (Dn S_BatSig))) (h7 : (List (Dn Sh.bool))) (h8 : (List (Dn S_TstTest))) : St := mkS [(1, (AV.ptr 1 none [])), (2, (AV.ptr 2 none [])), (3, (AV.sref 2503 none [])), (7, (AV.val L_TstTest x0.2.2.1)), (8, (AV.val I h0)), (9, (AV.val I h1))] [(1, (Ob.box S_BatBatch (AV.val S_BatBatch x0))), (2, (Ob.box S_BatBatch (AV.pair (AV.val I h2) (AV.pair (AV.val I h3) (AV.pair (AV.sref 2502 none []) (AV.pair (AV.val I h4) (AV.pair (AV.sref 12502 none []) (AV.sref 22502 none [])))))))), (2502, (Ob.arr 56 S_TstTest h5)), (12502, (Ob.arr 58 S_BatSig h6)), (22502, (Ob.arr 4 Sh.bool h7)), (2503, (Ob.arr 56 S_TstTest h8))]
def r_df := rounds (X_df g_dc p_dc g_dd p_dd g_de p_de) Tryz.f104 R_df M_df
variable {g_dc p_dc g_dd p_dd g_de p_de}
theorem ev_df (k : Nat) (x0 : Dm (.imm S_BatBatch)) : E_df g_dc p_dc g_dd p_dd g_de p_de k (x0, ()) =
 (r_df g_dc p_dc g_dd p_dd g_de p_de (x0, ()) k pt0 (h0_df x0 (List.length x0.2.2.1 : Int) (0 : Int) (0 : Int) (0 : Int) (0 : Int) [] [] [] [])) := by kernel_rfl
theorem rd0_df (k : Nat) (x0 : Dm (.imm S_BatBatch)) (h0 : Dn I) (h1 : Dn I) (h2 : Dn I) (h3 : Dn I) (h4 : Dn I) (h5 : (List (Dn S_TstTest))) (h6 : (List (Dn S_BatSig))) (h7 : (List (Dn Sh.bool))) (h8 : (List (Dn S_TstTest))) : r_df g_dc p_dc g_dd p_dd g_de p_de (x0, ()) (k + 1) pt0 (h0_df x0 h0 h1 h2 h3 h4 h5 h6 h7 h8) =
 (bif (decide (h1 < h0)) then (bif (bif (decide ((0 : Int) <= h1)) then (decide (h1 < (List.length x0.2.2.1 : Int))) else false) then (cl (p_dc ((rdL (e := S_TstTest) x0.2.2.1 h1), ())) (g_dc ((rdL (e := S_TstTest) x0.2.2.1 h1), ())) fun y0 => (bif (fitL h8 [(y0.1)]) then (r_df g_dc p_dc g_dd p_dd g_de p_de (x0, ()) k pt0 (h0_df x0 h0 (w64 (h1 + (1 : Int))) h2 h3 h4 h5 h6 h7 (List.append h8 [(y0.1)]))) else none)) else none) else (cl (p_dd (x0.2.2.2.2.1, ())) (g_dd (x0.2.2.2.2.1, ())) fun y1 => (cl (p_de (x0.2.2.2.2.2, ())) (g_de (x0.2.2.2.2.2, ())) fun y2 => (some ((x0.1, (x0.2.1, (h8, (x0.2.2.2.1, (y1.1, y2.1))))), ()))))) := by kernel_rfl
theorem S_df (h_dc : C_dc p_dc g_dc) (h_dd : C_dd p_dd g_dd) (h_de : C_de p_de g_de) {pre fn} (hev : Hq (E_df g_dc p_dc g_dd p_dd g_de p_de) pre fn) : C_df pre fn := sound tysOk mixed (fn := Tryz.f104) rfl rfl rfl (.cons h_dc (.cons h_dd (.cons h_de .nil))) _ hev
end
abbrev M_dg : Lm := [.imm S_TstTest, .pR I]
abbrev R_dg : Lr := [(.imm, .bool)]
abbrev In_dg := Iq M_dg
abbrev Out_dg := Oq R_dg M_dg
abbrev C_dg := Cq 97 M_dg R_dg
abbrev X_dg : Ctx := ctx tys 9 (conOf []) (keepOf []) nF
abbrev E_dg := evFn X_dg Tryz.f97 R_dg M_dg
theorem ev_dg (k : Nat) (x0 : Dm (.imm S_TstTest)) (x1 : Dm (.pR I)) : E_dg k (x0, x1, ()) =
 (some ((decide (x0.1.1 = x1)), ())) := by kernel_rfl
theorem S_dg  {pre fn} (hev : Hq E_dg pre fn) : C_dg pre fn := sound tysOk mixed (fn := Tryz.f97) rfl rfl rfl ConsOk.nil _ hev
abbrev M_dh : Lm := [.imm L_TstTest, .clo 97 [I]]
abbrev R_dh : Lr := [(.imm, I)]
abbrev In_dh := Iq M_dh
abbrev Out_dh := Oq R_dh M_dh
abbrev C_dh := Cq 96 M_dh R_dh
section
variable (g_dg : In_dg -> Out_dg) (p_dg : In_dg -> Bool)
abbrev X_dh : Ctx := ctx tys 19 (conOf [(97, ⟨M_dg, R_dg, p_dg, g_dg⟩)]) (keepOf [(pt1, (⟨[(0, .asis), (1, .asis), (7, .asis), (8, .asis)], [(1000005000, .asis)], []⟩ : Keep))]) nF
abbrev E_dh := evFn (X_dh g_dg p_dg) Tryz.f96 R_dh M_dh
def h0_dh (x0 : Dm (.imm L_TstTest)) (x1 : Dm (.clo 97 [I])) (h0 : Dn I) (h1 : Dn I) : St := mkS [(0, (AV.val L_TstTest x0)), (1, (AV.fn 97 [1000005000])), (7, (AV.val I h0)), (8, (AV.val I h1))] [(1000005000, (Ob.cbox I x1.1))]
def r_dh := rounds (X_dh g_dg p_dg) Tryz.f96 R_dh M_dh
variable {g_dg p_dg}
theorem ev_dh (k : Nat) (x0 : Dm (.imm L_TstTest)) (x1 : Dm (.clo 97 [I])) : E_dh g_dg p_dg k (x0, x1, ()) =
 (r_dh g_dg p_dg (x0, x1, ()) k pt1 (h0_dh x0 x1 (List.length x0 : Int) (0 : Int))) := by kernel_rfl
theorem rd0_dh (k : Nat) (x0 : Dm (.imm L_TstTest)) (x1 : Dm (.clo 97 [I])) (h0 : Dn I) (h1 : Dn I) : r_dh g_dg p_dg (x0, x1, ()) (k + 1) pt1 (h0_dh x0 x1 h0 h1) =
 (bif (decide (h1 < h0)) then (bif (bif (decide ((0 : Int) <= h1)) then (decide (h1 < (List.length x0 : Int))) else false) then (cl (p_dg ((rdL (e := S_TstTest) x0 h1), (x1.1, ()))) (g_dg ((rdL (e := S_TstTest) x0 h1), (x1.1, ()))) fun y0 => (bif y0.1 then (some (h1, ())) else (r_dh g_dg p_dg (x0, x1, ()) k pt1 (h0_dh x0 x1 h0 (w64 (h1 + (1 : Int))))))) else none) else (some ((-1 : Int), ()))) := by kernel_rfl
theorem S_dh (h_dg : C_dg p_dg g_dg) {pre fn} (hev : Hq (E_dh g_dg p_dg) pre fn) : C_dh pre fn := sound tysOk mixed (fn := Tryz.f96) rfl rfl rfl (.cons h_dg .nil) _ hev
end
abbrev M_di : Lm := [.pO S_TstTest, .pR S_DecDec]
abbrev R_di : Lr := []
abbrev In_di := Iq M_di
abbrev Out_di := Oq R_di M_di
abbrev C_di := Cq 101 M_di R_di
abbrev X_di : Ctx := ctx tys 7 (conOf []) (keepOf []) nF
abbrev E_di := evFn X_di Tryz.f101 R_di M_di
theorem ev_di (k : Nat) (x0 : Dm (.pO S_TstTest)) (x1 : Dm (.pR S_DecDec)) : E_di k (x0, x1, ()) =
 (some ((x0.1, (x0.2.1, (x1, x0.2.2.2))), ())) := by kernel_rfl
theorem S_di  {pre fn} (hev : Hq E_di pre fn) : C_di pre fn := sound tysOk mixed (fn := Tryz.f101) rfl rfl rfl ConsOk.nil _ hev
abbrev M_dj : Lm := [.imm S_TstTest, .imm I, .imm .bool, .clo 101 [S_DecDec]]
abbrev R_dj : Lr := [(.own, S_TstTest), (.imm, .bool)]
abbrev In_dj := Iq M_dj
abbrev Out_dj := Oq R_dj M_dj
abbrev C_dj := Cq 100 M_dj R_dj
section
variable (g_dc : In_dc -> Out_dc) (p_dc : In_dc -> Bool) (g_cn : In_cn -> Out_cn) (p_cn : In_cn -> Bool) (g_di : In_di -> Out_di) (p_di : In_di -> Bool) (g_cm : In_cm -> Out_cm) (p_cm : In_cm -> Bool)
abbrev X_dj : Ctx := ctx tys 33 (conOf [(163, ⟨M_dc, R_dc, p_dc, g_dc⟩), (88, ⟨M_cn, R_cn, p_cn, g_cn⟩), (101, ⟨M_di, R_di, p_di, g_di⟩), (156, ⟨M_cm, R_cm, p_cm, g_cm⟩)]) (keepOf []) nF
abbrev E_dj := evFn (X_dj g_dc p_dc g_cn p_cn g_di p_di g_cm p_cm) Tryz.f100 R_dj M_dj
variable {g_dc p_dc g_cn p_cn g_di p_di g_cm p_cm}
theorem ev_dj (k : Nat) (x0 : Dm (.imm S_TstTest)) (x1 : Dm (.imm I)) (x2 : Dm (.imm .bool)) (x3 : Dm (.clo 101 [S_DecDec])) : E_dj g_dc p_dc g_cn p_cn g_di p_di g_cm p_cm k (x0, x1, x2, x3, ()) =
 (cl (p_dc (x0, ())) (g_dc (x0, ())) fun y0 => (cl (p_cn (x0, ())) (g_cn (x0, ())) fun y1 => (bif (bif y1.1 then false else true) then (some (y0.1, (false, ()))) else (bif (bif (decide (x0.2.1 = x1)) then false else true) then (some (y0.1, (false, ()))) else (bif (bif x2 then false else true) then (some (y0.1, (false, ()))) else (cl (p_di (y0.1, (x3.1, ()))) (g_di (y0.1, (x3.1, ()))) fun y2 => (cl (p_cm (y2.1, ())) (g_cm (y2.1, ())) fun y3 => (some ((y2.1.1, (y3.1, y2.1.2.2)), (true, ())))))))))) := by kernel_rfl
theorem S_dj (h_dc : C_dc p_dc g_dc) (h_cn : C_cn p_cn g_cn) (h_di : C_di p_di g_di) (h_cm : C_cm p_cm g_cm) {pre fn} (hev : Hq (E_dj g_dc p_dc g_cn p_cn g_di p_di g_cm p_cm) pre fn) : C_dj pre fn := sound tysOk mixed (fn := Tryz.f100) rfl rfl rfl (.cons h_dc (.cons h_cn (.cons h_di (.cons h_cm .nil)))) _ hev
end
abbrev M_dk : Lm := [.imm S_TstTest, .imm S_DecDec]
abbrev R_dk : Lr := [(.own, S_TstTest), (.imm, .bool)]
abbrev In_dk := Iq M_dk
abbrev Out_dk := Oq R_dk M_dk
abbrev C_dk := Cq 42 M_dk R_dk
section
variable (g_c4 : In_c4 -> Out_c4) (g_dj : In_dj -> Out_dj) (p_dj : In_dj -> Bool)
abbrev X_dk : Ctx := ctx tys 13 (conOf [(75, ⟨M_c4, R_c4, fun _ => true, g_c4⟩), (100, ⟨M_dj, R_dj, p_dj, g_dj⟩)]) (keepOf []) nF
abbrev E_dk := evFn (X_dk g_c4 g_dj p_dj) Tryz.f42 R_dk M_dk
variable {g_c4 g_dj p_dj}
theorem ev_dk (k : Nat) (x0 : Dm (.imm S_TstTest)) (x1 : Dm (.imm S_DecDec)) : E_dk g_c4 g_dj p_dj k (x0, x1, ()) =
 (cl (p_dj (x0, ((0 : Int), ((g_c4 (x1, ())).1, ((x1, ()), ()))))) (g_dj (x0, ((0 : Int), ((g_c4 (x1, ())).1, ((x1, ()), ()))))) fun y0 => (some (y0.1, (y0.2.1, ())))) := by kernel_rfl
theorem S_dk (h_c4 : C_c4 (fun _ => true) g_c4) (h_dj : C_dj p_dj g_dj) {pre fn} (hev : Hq (E_dk g_c4 g_dj p_dj) pre fn) : C_dk pre fn := sound tysOk mixed (fn := Tryz.f42) rfl rfl rfl (.cons h_c4 (.cons h_dj .nil)) _ hev
end
abbrev M_dl : Lm := [.pO S_TstTest, .pR I]
abbrev R_dl : Lr := []
abbrev In_dl := Iq M_dl
abbrev Out_dl := Oq R_dl M_dl
abbrev C_dl := Cq 102 M_dl R_dl
abbrev X_dl : Ctx := ctx tys 7 (conOf []) (keepOf []) nF
abbrev E_dl := evFn X_dl Tryz.f102 R_dl M_dl
theorem ev_dl (k : Nat) (x0 : Dm (.pO S_TstTest)) (x1 : Dm (.pR I)) : E_dl k (x0, x1, ()) =
 (some ((x0.1, (x0.2.1, (x0.2.2.1, (x1, x0.2.2.2.2)))), ())) := by kernel_rfl
theorem S_dl  {pre fn} (hev : Hq E_dl pre fn) : C_dl pre fn := sound tysOk mixed (fn := Tryz.f102) rfl rfl rfl ConsOk.nil _ hev
abbrev M_dm : Lm := [.imm S_TstTest, .imm I, .imm .bool, .clo 102 [I]]
abbrev R_dm : Lr := [(.own, S_TstTest), (.imm, .bool)]
abbrev In_dm := Iq M_dm
abbrev Out_dm := Oq R_dm M_dm
abbrev C_dm := Cq 100 M_dm R_dm
section
variable (g_dc : In_dc -> Out_dc) (p_dc : In_dc -> Bool) (g_cn : In_cn -> Out_cn) (p_cn : In_cn -> Bool) (g_dl : In_dl -> Out_dl) (p_dl : In_dl -> Bool) (g_cm : In_cm -> Out_cm) (p_cm : In_cm -> Bool)
abbrev X_dm : Ctx := ctx tys 33 (conOf [(163, ⟨M_dc, R_dc, p_dc, g_dc⟩), (88, ⟨M_cn, R_cn, p_cn, g_cn⟩), (102, ⟨M_dl, R_dl, p_dl, g_dl⟩), (156, ⟨M_cm, R_cm, p_cm, g_cm⟩)]) (keepOf []) nF
abbrev E_dm := evFn (X_dm g_dc p_dc g_cn p_cn g_dl p_dl g_cm p_cm) Tryz.f100 R_dm M_dm
variable {g_dc p_dc g_cn p_cn g_dl p_dl g_cm p_cm}
theorem ev_dm (k : Nat) (x0 : Dm (.imm S_TstTest)) (x1 : Dm (.imm I)) (x2 : Dm (.imm .bool)) (x3 : Dm (.clo 102 [I])) : E_dm g_dc p_dc g_cn p_cn g_dl p_dl g_cm p_cm k (x0, x1, x2, x3, ()) =
 (cl (p_dc (x0, ())) (g_dc (x0, ())) fun y0 => (cl (p_cn (x0, ())) (g_cn (x0, ())) fun y1 => (bif (bif y1.1 then false else true) then (some (y0.1, (false, ()))) else (bif (bif (decide (x0.2.1 = x1)) then false else true) then (some (y0.1, (false, ()))) else (bif (bif x2 then false else true) then (some (y0.1, (false, ()))) else (cl (p_dl (y0.1, (x3.1, ()))) (g_dl (y0.1, (x3.1, ()))) fun y2 => (cl (p_cm (y2.1, ())) (g_cm (y2.1, ())) fun y3 => (some ((y2.1.1, (y3.1, y2.1.2.2)), (true, ())))))))))) := by kernel_rfl
theorem S_dm (h_dc : C_dc p_dc g_dc) (h_cn : C_cn p_cn g_cn) (h_dl : C_dl p_dl g_dl) (h_cm : C_cm p_cm g_cm) {pre fn} (hev : Hq (E_dm g_dc p_dc g_cn p_cn g_dl p_dl g_cm p_cm) pre fn) : C_dm pre fn := sound tysOk mixed (fn := Tryz.f100) rfl rfl rfl (.cons h_dc (.cons h_cn (.cons h_dl (.cons h_cm .nil)))) _ hev
end
abbrev M_dn : Lm := [.imm S_TstTest, .imm I]
abbrev R_dn : Lr := [(.own, S_TstTest), (.imm, .bool)]
abbrev In_dn := Iq M_dn
abbrev Out_dn := Oq R_dn M_dn
abbrev C_dn := Cq 43 M_dn R_dn
section
variable (g_iin : In_iin -> Out_iin) (g_dm : In_dm -> Out_dm) (p_dm : In_dm -> Bool)
abbrev X_dn : Ctx := ctx tys 13 (conOf [(65, ⟨M_iin, R_iin, fun _ => true, g_iin⟩), (100, ⟨M_dm, R_dm, p_dm, g_dm⟩)]) (keepOf []) nF
abbrev E_dn := evFn (X_dn g_iin g_dm p_dm) Tryz.f43 R_dn M_dn
variable {g_iin g_dm p_dm}
theorem ev_dn (k : Nat) (x0 : Dm (.imm S_TstTest)) (x1 : Dm (.imm I)) : E_dn g_iin g_dm p_dm k (x0, x1, ()) =
 (cl (p_dm (x0, ((1 : Int), ((g_iin (x1, ((1 : Int), ((3 : Int), ())))).1, ((x1, ()), ()))))) (g_dm (x0, ((1 : Int), ((g_iin (x1, ((1 : Int), ((3 : Int), ())))).1, ((x1, ()), ()))))) fun y0 => (some (y0.1, (y0.2.1, ())))) := by kernel_rfl
theorem S_dn (h_iin : C_iin (fun _ => true) g_iin) (h_dm : C_dm p_dm g_dm) {pre fn} (hev : Hq (E_dn g_iin g_dm p_dm) pre fn) : C_dn pre fn := sound tysOk mixed (fn := Tryz.f43) rfl rfl rfl (.cons h_iin (.cons h_dm .nil)) _ hev
end
abbrev M_do : Lm := [.pO S_TstTest, .pR S_DecDec]
abbrev R_do : Lr := []
abbrev In_do := Iq M_do
abbrev Out_do := Oq R_do M_do
abbrev C_do := Cq 103 M_do R_do
abbrev X_do : Ctx := ctx tys 13 (conOf []) (keepOf []) nF
abbrev E_do := evFn X_do Tryz.f103 R_do M_do
theorem ev_do (k : Nat) (x0 : Dm (.pO S_TstTest)) (x1 : Dm (.pR S_DecDec)) : E_do k (x0, x1, ()) =
 (bif (fitL x0.2.2.2.2 [x1]) then (some ((x0.1, (x0.2.1, (x0.2.2.1, (x0.2.2.2.1, (List.append x0.2.2.2.2 [x1]))))), ())) else none) := by kernel_rfl
theorem S_do  {pre fn} (hev : Hq E_do pre fn) : C_do pre fn := sound tysOk mixed (fn := Tryz.f103) rfl rfl rfl ConsOk.nil _ hev
abbrev M_dp : Lm := [.imm S_TstTest, .imm I, .imm .bool, .clo 103 [S_DecDec]]
abbrev R_dp : Lr := [(.own, S_TstTest), (.imm, .bool)]
abbrev In_dp := Iq M_dp
abbrev Out_dp := Oq R_dp M_dp
abbrev C_dp := Cq 100 M_dp R_dp
section
variable (g_dc : In_dc -> Out_dc) (p_dc : In_dc -> Bool) (g_cn : In_cn -> Out_cn) (p_cn : In_cn -> Bool) (g_do : In_do -> Out_do) (p_do : In_do -> Bool) (g_cm : In_cm -> Out_cm) (p_cm : In_cm -> Bool)
abbrev X_dp : Ctx := ctx tys 33 (conOf [(163, ⟨M_dc, R_dc, p_dc, g_dc⟩), (88, ⟨M_cn, R_cn, p_cn, g_cn⟩), (103, ⟨M_do, R_do, p_do, g_do⟩), (156, ⟨M_cm, R_cm, p_cm, g_cm⟩)]) (keepOf []) nF
abbrev E_dp := evFn (X_dp g_dc p_dc g_cn p_cn g_do p_do g_cm p_cm) Tryz.f100 R_dp M_dp
variable {g_dc p_dc g_cn p_cn g_do p_do g_cm p_cm}
theorem ev_dp (k : Nat) (x0 : Dm (.imm S_TstTest)) (x1 : Dm (.imm I)) (x2 : Dm (.imm .bool)) (x3 : Dm (.clo 103 [S_DecDec])) : E_dp g_dc p_dc g_cn p_cn g_do p_do g_cm p_cm k (x0, x1, x2, x3, ()) =
 (cl (p_dc (x0, ())) (g_dc (x0, ())) fun y0 => (cl (p_cn (x0, ())) (g_cn (x0, ())) fun y1 => (bif (bif y1.1 then false else true) then (some (y0.1, (false, ()))) else (bif (bif (decide (x0.2.1 = x1)) then false else true) then (some (y0.1, (false, ()))) else (bif (bif x2 then false else true) then (some (y0.1, (false, ()))) else (cl (p_do (y0.1, (x3.1, ()))) (g_do (y0.1, (x3.1, ()))) fun y2 => (cl (p_cm (y2.1, ())) (g_cm (y2.1, ())) fun y3 => (some ((y2.1.1, (y3.1, y2.1.2.2)), (true, ())))))))))) := by kernel_rfl
theorem S_dp (h_dc : C_dc p_dc g_dc) (h_cn : C_cn p_cn g_cn) (h_do : C_do p_do g_do) (h_cm : C_cm p_cm g_cm) {pre fn} (hev : Hq (E_dp g_dc p_dc g_cn p_cn g_do p_do g_cm p_cm) pre fn) : C_dp pre fn := sound tysOk mixed (fn := Tryz.f100) rfl rfl rfl (.cons h_dc (.cons h_cn (.cons h_do (.cons h_cm .nil)))) _ hev
end
abbrev M_dq : Lm := [.imm S_TstTest, .imm S_DecDec]
abbrev R_dq : Lr := [(.own, S_TstTest), (.imm, .bool)]
abbrev In_dq := Iq M_dq
abbrev Out_dq := Oq R_dq M_dq
abbrev C_dq := Cq 44 M_dq R_dq
section
variable (g_c4 : In_c4 -> Out_c4) (g_dp : In_dp -> Out_dp) (p_dp : In_dp -> Bool)
abbrev X_dq : Ctx := ctx tys 13 (conOf [(75, ⟨M_c4, R_c4, fun _ => true, g_c4⟩), (100, ⟨M_dp, R_dp, p_dp, g_dp⟩)]) (keepOf []) nF
abbrev E_dq := evFn (X_dq g_c4 g_dp p_dp) Tryz.f44 R_dq M_dq
variable {g_c4 g_dp p_dp}
theorem ev_dq (k : Nat) (x0 : Dm (.imm S_TstTest)) (x1 : Dm (.imm S_DecDec)) : E_dq g_c4 g_dp p_dp k (x0, x1, ()) =
 (cl (p_dp (x0, ((2 : Int), ((g_c4 (x1, ())).1, ((x1, ()), ()))))) (g_dp (x0, ((2 : Int), ((g_c4 (x1, ())).1, ((x1, ()), ()))))) fun y0 => (some (y0.1, (y0.2.1, ())))) := by kernel_rfl
theorem S_dq (h_c4 : C_c4 (fun _ => true) g_c4) (h_dp : C_dp p_dp g_dp) {pre fn} (hev : Hq (E_dq g_c4 g_dp p_dp) pre fn) : C_dq pre fn := sound tysOk mixed (fn := Tryz.f44) rfl rfl rfl (.cons h_c4 (.cons h_dp .nil)) _ hev
end
abbrev M_dr : Lm := [.pO S_BatBatch, .pR I, .pR I, .pR S_DecDec, .pR I]
abbrev R_dr : Lr := [(.imm, .bool)]
abbrev In_dr := Iq M_dr
abbrev Out_dr := Oq R_dr M_dr
abbrev C_dr := Cq 95 M_dr R_dr
section
variable (g_dh : In_dh -> Out_dh) (p_dh : In_dh -> Bool) (g_dk : In_dk -> Out_dk) (p_dk : In_dk -> Bool) (g_dn : In_dn -> Out_dn) (p_dn : In_dn -> Bool) (g_dq : In_dq -> Out_dq) (p_dq : In_dq -> Bool)
abbrev X_dr : Ctx := ctx tys 62 (conOf [(96, ⟨M_dh, R_dh, p_dh, g_dh⟩), (42, ⟨M_dk, R_dk, p_dk, g_dk⟩), (43, ⟨M_dn, R_dn, p_dn, g_dn⟩), (44, ⟨M_dq, R_dq, p_dq, g_dq⟩)]) (keepOf []) nF
abbrev E_dr := evFn (X_dr g_dh p_dh g_dk p_dk g_dn p_dn g_dq p_dq) Tryz.f95 R_dr M_dr
variable {g_dh p_dh g_dk p_dk g_dn p_dn g_dq p_dq}
theorem ev_dr (k : Nat) (x0 : Dm (.pO S_BatBatch)) (x1 : Dm (.pR I)) (x2 : Dm (.pR I)) (x3 : Dm (.pR S_DecDec)) (x4 : Dm (.pR I)) : E_dr g_dh p_dh g_dk p_dk g_dn p_dn g_dq p_dq k (x0, x1, x2, x3, x4, ()) =
 (cl (p_dh (x0.2.2.1, ((x1, ()), ()))) (g_dh (x0.2.2.1, ((x1, ()), ()))) fun y0 => (lt (rdL (e := S_TstTest) x0.2.2.1 y0.1) fun s0 => (bif (decide (y0.1 < (0 : Int))) then (some (false, (x0, ()))) else (bif (bif (decide ((0 : Int) <= y0.1)) then (decide (y0.1 < (List.length x0.2.2.1 : Int))) else false) then (bif (decide (x2 = (1 : Int))) then (cl (p_dk (s0, (x3, ()))) (g_dk (s0, (x3, ()))) fun y1 => (some (y1.2.1, ((x0.1, (x0.2.1, ((List.set x0.2.2.1 (Int.toNat y0.1) y1.1), x0.2.2.2))), ())))) else (bif (decide (x2 = (2 : Int))) then (cl (p_dn (s0, (x4, ()))) (g_dn (s0, (x4, ()))) fun y2 => (some (y2.2.1, ((x0.1, (x0.2.1, ((List.set x0.2.2.1 (Int.toNat y0.1) y2.1), x0.2.2.2))), ())))) else (bif (decide (x2 = (3 : Int))) then (cl (p_dq (s0, (x3, ()))) (g_dq (s0, (x3, ()))) fun y3 => (some (y3.2.1, ((x0.1, (x0.2.1, ((List.set x0.2.2.1 (Int.toNat y0.1) y3.1), x0.2.2.2))), ())))) else (some (false, (x0, ())))))) else none)))) := by kernel_rfl
theorem S_dr (h_dh : C_dh p_dh g_dh) (h_dk : C_dk p_dk g_dk) (h_dn : C_dn p_dn g_dn) (h_dq : C_dq p_dq g_dq) {pre fn} (hev : Hq (E_dr g_dh p_dh g_dk p_dk g_dn p_dn g_dq p_dq) pre fn) : C_dr pre fn := sound tysOk mixed (fn := Tryz.f95) rfl rfl rfl (.cons h_dh (.cons h_dk (.cons h_dn (.cons h_dq .nil)))) _ hev
end
abbrev M_ds : Lm := [.imm S_BatBatch, .clo 95 [I, I, S_DecDec, I]]
abbrev R_ds : Lr := [(.own, S_BatBatch), (.imm, .bool)]
abbrev In_ds := Iq M_ds
abbrev Out_ds := Oq R_ds M_ds
abbrev C_ds := Cq 83 M_ds R_ds
section
variable (g_df : In_df -> Out_df) (p_df : In_df -> Bool) (g_d6 : In_d6 -> Out_d6) (p_d6 : In_d6 -> Bool) (g_dr : In_dr -> Out_dr) (p_dr : In_dr -> Bool)
abbrev X_ds : Ctx := ctx tys 23 (conOf [(104, ⟨M_df, R_df, p_df, g_df⟩), (34, ⟨M_d6, R_d6, p_d6, g_d6⟩), (95, ⟨M_dr, R_dr, p_dr, g_dr⟩)]) (keepOf []) nF
abbrev E_ds := evFn (X_ds g_df p_df g_d6 p_d6 g_dr p_dr) Tryz.f83 R_ds M_ds
variable {g_df p_df g_d6 p_d6 g_dr p_dr}
theorem ev_ds (k : Nat) (x0 : Dm (.imm S_BatBatch)) (x1 : Dm (.clo 95 [I, I, S_DecDec, I])) : E_ds g_df p_df g_d6 p_d6 g_dr p_dr k (x0, x1, ()) =
 (cl (p_df (x0, ())) (g_df (x0, ())) fun y0 => (cl (p_d6 (x0, ())) (g_d6 (x0, ())) fun y1 => (bif (bif y1.1 then false else true) then (some (y0.1, (false, ()))) else (bif (bif (decide (x0.2.2.2.1 = (1 : Int))) then false else true) then (some (y0.1, (false, ()))) else (cl (p_dr (y0.1, (x1.1, (x1.2.1, (x1.2.2.1, (x1.2.2.2.1, ())))))) (g_dr (y0.1, (x1.1, (x1.2.1, (x1.2.2.1, (x1.2.2.2.1, ())))))) fun y2 => (some (y2.2.1, (y2.1, ())))))))) := by kernel_rfl
theorem S_ds (h_df : C_df p_df g_df) (h_d6 : C_d6 p_d6 g_d6) (h_dr : C_dr p_dr g_dr) {pre fn} (hev : Hq (E_ds g_df p_df g_d6 p_d6 g_dr p_dr) pre fn) : C_ds pre fn := sound tysOk mixed (fn := Tryz.f83) rfl rfl rfl (.cons h_df (.cons h_d6 (.cons h_dr .nil))) _ hev
end
abbrev M_dt : Lm := [.imm S_BatBatch, .imm I, .imm I, .imm S_DecDec, .imm I]
abbrev R_dt : Lr := [(.own, S_BatBatch), (.imm, .bool)]
abbrev In_dt := Iq M_dt
abbrev Out_dt := Oq R_dt M_dt
abbrev C_dt := Cq 39 M_dt R_dt
section
variable (g_ds : In_ds -> Out_ds) (p_ds : In_ds -> Bool)
abbrev X_dt : Ctx := ctx tys 17 (conOf [(83, ⟨M_ds, R_ds, p_ds, g_ds⟩)]) (keepOf []) nF
abbrev E_dt := evFn (X_dt g_ds p_ds) Tryz.f39 R_dt M_dt
variable {g_ds p_ds}
theorem ev_dt (k : Nat) (x0 : Dm (.imm S_BatBatch)) (x1 : Dm (.imm I)) (x2 : Dm (.imm I)) (x3 : Dm (.imm S_DecDec)) (x4 : Dm (.imm I)) : E_dt g_ds p_ds k (x0, x1, x2, x3, x4, ()) =
 (cl (p_ds (x0, ((x1, (x2, (x3, (x4, ())))), ()))) (g_ds (x0, ((x1, (x2, (x3, (x4, ())))), ()))) fun y0 => (some (y0.1, (y0.2.1, ())))) := by kernel_rfl
theorem S_dt (h_ds : C_ds p_ds g_ds) {pre fn} (hev : Hq (E_dt g_ds p_ds) pre fn) : C_dt pre fn := sound tysOk mixed (fn := Tryz.f39) rfl rfl rfl (.cons h_ds .nil) _ hev
end
abbrev M_du : Lm := [.imm L_DecDec, .imm L_DecDec]
abbrev R_du : Lr := [(.imm, .bool)]
abbrev In_du := Iq M_du
abbrev Out_du := Oq R_du M_du
abbrev C_du := Cq 99 M_du R_du
abbrev X_du : Ctx := ctx tys 26 (conOf []) (keepOf [(pt0, (⟨[(0, .asis), (1, .asis), (5, .asis)], [], []⟩ : Keep))]) nF
abbrev E_du := evFn X_du Tryz.f99 R_du M_du
def h0_du (x0 : Dm (.imm L_DecDec)) (x1 : Dm (.imm L_DecDec)) (h0 : Dn I) : St := mkS [(0, (AV.val L_DecDec x0)), (1, (AV.val L_DecDec x1)), (5, (AV.val I h0))] []
def r_du := rounds X_du Tryz.f99 R_du M_du
theorem ev_du (k : Nat) (x0 : Dm (.imm L_DecDec)) (x1 : Dm (.imm L_DecDec)) : E_du k (x0, x1, ()) =
 (bif (bif (decide ((List.length x0 : Int) = (List.length x1 : Int))) then false else true) then (some (false, ())) else (r_du  (x0, x1, ()) k pt0 (h0_du x0 x1 (0 : Int)))) := by kernel_rfl
theorem rd0_du (k : Nat) (x0 : Dm (.imm L_DecDec)) (x1 : Dm (.imm L_DecDec)) (h0 : Dn I) : r_du  (x0, x1, ()) (k + 1) pt0 (h0_du x0 x1 h0) =
 (bif (decide (h0 < (List.length x0 : Int))) then (bif (bif (decide ((0 : Int) <= h0)) then (decide (h0 < (List.length x0 : Int))) else false) then (bif (bif (decide ((0 : Int) <= h0)) then (decide (h0 < (List.length x1 : Int))) else false) then (bif (bif (Sh.beq S_DecDec (rdL (e := S_DecDec) x0 h0) (rdL (e := S_DecDec) x1 h0)) then false else true) then (some (false, ())) else (r_du  (x0, x1, ()) k pt0 (h0_du x0 x1 (w64 (h0 + (1 : Int)))))) else none) else none) else (some (true, ()))) := by kernel_rfl
theorem S_du  {pre fn} (hev : Hq E_du pre fn) : C_du pre fn := sound tysOk mixed (fn := Tryz.f99) rfl rfl rfl ConsOk.nil _ hev
abbrev M_dv : Lm := [.imm S_TstTest, .imm S_TstTest]
abbrev R_dv : Lr := [(.imm, .bool)]
abbrev In_dv := Iq M_dv
abbrev Out_dv := Oq R_dv M_dv
abbrev C_dv := Cq 41 M_dv R_dv
section
variable (g_du : In_du -> Out_du) (p_du : In_du -> Bool)
abbrev X_dv : Ctx := ctx tys 38 (conOf [(99, ⟨M_du, R_du, p_du, g_du⟩)]) (keepOf []) nF
abbrev E_dv := evFn (X_dv g_du p_du) Tryz.f41 R_dv M_dv
variable {g_du p_du}
theorem ev_dv (k : Nat) (x0 : Dm (.imm S_TstTest)) (x1 : Dm (.imm S_TstTest)) : E_dv g_du p_du k (x0, x1, ()) =
 (bif (Sh.beq S_SpcTest x0.1 x1.1) then (bif (decide (x0.2.1 = x1.2.1)) then (bif (Sh.beq S_DecDec x0.2.2.1 x1.2.2.1) then (bif (decide (x0.2.2.2.1 = x1.2.2.2.1)) then (bif (p_du (x0.2.2.2.2, (x1.2.2.2.2, ()))) then (some ((g_du (x0.2.2.2.2, (x1.2.2.2.2, ()))).1, ())) else none) else (some (false, ()))) else (some (false, ()))) else (some (false, ()))) else (some (false, ()))) := by kernel_rfl
theorem S_dv (h_du : C_du p_du g_du) {pre fn} (hev : Hq (E_dv g_du p_du) pre fn) : C_dv pre fn := sound tysOk mixed (fn := Tryz.f41) rfl rfl rfl (.cons h_du .nil) _ hev
end
abbrev M_dw : Lm := [.imm S_BatBatch, .imm S_BatBatch]
abbrev R_dw : Lr := [(.imm, .bool)]
abbrev In_dw := Iq M_dw
abbrev Out_dw := Oq R_dw M_dw
abbrev C_dw := Cq 21 M_dw R_dw
section
variable (g_dv : In_dv -> Out_dv) (p_dv : In_dv -> Bool)
abbrev X_dw : Ctx := ctx tys 109 (conOf [(41, ⟨M_dv, R_dv, p_dv, g_dv⟩)]) (keepOf [(pt8, (⟨[(2, .asis), (3, .asis), (7, .asis)], [(2, .asis), (3, .asis)], []⟩ : Keep)), (pt2, (⟨[(2, .asis), (3, .asis), (6, .asis)], [(2, .asis), (3, .asis)], []⟩ : Keep)), (pt0, (⟨[(2, .asis), (3, .asis), (5, .asis)], [(2, .asis), (3, .asis)], []⟩ : Keep))]) nF
abbrev E_dw := evFn (X_dw g_dv p_dv) Tryz.f21 R_dw M_dw
def h0_dw (x0 : Dm (.imm S_BatBatch)) (x1 : Dm (.imm S_BatBatch)) (h0 : Dn I) : St := mkS [(2, (AV.ptr 2 none [])), (3, (AV.ptr 3 none [])), (5, (AV.val I h0))] [(2, (Ob.box S_BatBatch (AV.val S_BatBatch x0))), (3, (Ob.box S_BatBatch (AV.val S_BatBatch x1)))]
def h1_dw (x0 : Dm (.imm S_BatBatch)) (x1 : Dm (.imm S_BatBatch)) (h0 : Dn I) : St := mkS [(2, (AV.ptr 2 none [])), (3, (AV.ptr 3 none [])), (6, (AV.val I h0))] [(2, (Ob.box S_BatBatch (AV.val S_BatBatch x0))), (3, (Ob.box S_BatBatch (AV.val S_BatBatch x1)))]
def h2_dw (x0 : Dm (.imm S_BatBatch)) (x1 : Dm (.imm S_BatBatch)) (h0 : Dn I) : St := mkS [(2, (AV.ptr 2 none [])), (3, (AV.ptr 3 none [])), (7, (AV.val I h0))] [(2, (Ob.box S_BatBatch (AV.val S_BatBatch x0))), (3, (Ob.box S_BatBatch (AV.val S_BatBatch x1)))]
def r_dw := rounds (X_dw g_dv p_dv) Tryz.f21 R_dw M_dw
variable {g_dv p_dv}
theorem ev_dw (k : Nat) (x0 : Dm (.imm S_BatBatch)) (x1 : Dm (.imm S_BatBatch)) : E_dw g_dv p_dv k (x0, x1, ()) =
 (bif (bif (decide (x0.1 = x1.1)) then false else true) then (some (false, ())) else (bif (bif (decide (x0.2.1 = x1.2.1)) then false else true) then (some (false, ())) else (bif (bif (decide (x0.2.2.2.1 = x1.2.2.2.1)) then false else true) then (some (false, ())) else (bif (bif (decide ((List.length x0.2.2.1 : Int) = (List.length x1.2.2.1 : Int))) then false else true) then (some (false, ())) else (bif (bif (decide ((List.length x0.2.2.2.2.1 : Int) = (List.length x1.2.2.2.2.1 : Int))) then false else true) then (some (false, ())) else (bif (bif (decide ((List.length x0.2.2.2.2.2 : Int) = (List.length x1.2.2.2.2.2 : Int))) then false else true) then (some (false, ())) else (r_dw g_dv p_dv (x0, x1, ()) k pt0 (h0_dw x0 x1 (0 : Int))))))))) := by kernel_rfl
theorem rd0_dw (k : Nat) (x0 : Dm (.imm S_BatBatch)) (x1 : Dm (.imm S_BatBatch)) (h0 : Dn I) : r_dw g_dv p_dv (x0, x1, ()) (k + 1) pt0 (h0_dw x0 x1 h0) =
 (bif (decide (h0 < (List.length x0.2.2.1 : Int))) then (bif (bif (decide ((0 : Int) <= h0)) then (decide (h0 < (List.length x0.2.2.1 : Int))) else false) then (bif (bif (decide ((0 : Int) <= h0)) then (decide (h0 < (List.length x1.2.2.1 : Int))) else false) then (cl (p_dv ((rdL (e := S_TstTest) x0.2.2.1 h0), ((rdL (e := S_TstTest) x1.2.2.1 h0), ()))) (g_dv ((rdL (e := S_TstTest) x0.2.2.1 h0), ((rdL (e := S_TstTest) x1.2.2.1 h0), ()))) fun y0 => (bif (bif y0.1 then false else true) then (some (false, ())) else (r_dw g_dv p_dv (x0, x1, ()) k pt0 (h0_dw x0 x1 (w64 (h0 + (1 : Int))))))) else none) else none) else (r_dw g_dv p_dv (x0, x1, ()) k pt2 (h1_dw x0 x1 (0 : Int)))) := by kernel_rfl
theorem rd1_dw (k : Nat) (x0 : Dm (.imm S_BatBatch)) (x1 : Dm (.imm S_BatBatch)) (h0 : Dn I) : r_dw g_dv p_dv (x0, x1, ()) (k + 1) pt2 (h1_dw x0 x1 h0) =
 (bif (decide (h0 < (List.length x0.2.2.2.2.1 : Int))) then (bif (bif (decide ((0 : Int) <= h0)) then (decide (h0 < (List.length x0.2.2.2.2.1 : Int))) else false) then (bif (bif (decide ((0 : Int) <= h0)) then (decide (h0 < (List.length x1.2.2.2.2.1 : Int))) else false) then (bif (bif (Sh.beq S_BatSig (rdL (e := S_BatSig) x0.2.2.2.2.1 h0) (rdL (e := S_BatSig) x1.2.2.2.2.1 h0)) then false else true) then (some (false, ())) else (r_dw g_dv p_dv (x0, x1, ()) k pt2 (h1_dw x0 x1 (w64 (h0 + (1 : Int)))))) else none) else none) else (r_dw g_dv p_dv (x0, x1, ()) k pt8 (h2_dw x0 x1 (0 : Int)))) := by kernel_rfl
theorem rd2_dw (k : Nat) (x0 : Dm (.imm S_BatBatch)) (x1 : Dm (.imm S_BatBatch)) (h0 : Dn I) : r_dw g_dv p_dv (x0, x1, ()) (k + 1) pt8 (h2_dw x0 x1 h0) =
 (bif (decide (h0 < (List.length x0.2.2.2.2.2 : Int))) then (bif (bif (decide ((0 : Int) <= h0)) then (decide (h0 < (List.length x0.2.2.2.2.2 : Int))) else false) then (bif (bif (decide ((0 : Int) <= h0)) then (decide (h0 < (List.length x1.2.2.2.2.2 : Int))) else false) then (bif (bif ((rdL (e := Sh.bool) x0.2.2.2.2.2 h0) == (rdL (e := Sh.bool) x1.2.2.2.2.2 h0)) then false else true) then (some (false, ())) else (r_dw g_dv p_dv (x0, x1, ()) k pt8 (h2_dw x0 x1 (w64 (h0 + (1 : Int)))))) else none) else none) else (some (true, ()))) := by kernel_rfl
theorem S_dw (h_dv : C_dv p_dv g_dv) {pre fn} (hev : Hq (E_dw g_dv p_dv) pre fn) : C_dw pre fn := sound tysOk mixed (fn := Tryz.f21) rfl rfl rfl (.cons h_dv .nil) _ hev
end
abbrev M_dx : Lm := [.imm S_BatBatch, .imm I]
abbrev R_dx : Lr := [(.own, S_BatBatch), (.imm, .bool)]
abbrev In_dx := Iq M_dx
abbrev Out_dx := Oq R_dx M_dx
abbrev C_dx := Cq 45 M_dx R_dx
section
variable (g_df : In_df -> Out_df) (p_df : In_df -> Bool) (g_d5 : In_d5 -> Out_d5) (p_d5 : In_d5 -> Bool) (g_d6 : In_d6 -> Out_d6) (p_d6 : In_d6 -> Bool)
abbrev X_dx : Ctx := ctx tys 45 (conOf [(104, ⟨M_df, R_df, p_df, g_df⟩), (79, ⟨M_d5, R_d5, p_d5, g_d5⟩), (34, ⟨M_d6, R_d6, p_d6, g_d6⟩)]) (keepOf []) nF
abbrev E_dx := evFn (X_dx g_df p_df g_d5 p_d5 g_d6 p_d6) Tryz.f45 R_dx M_dx
variable {g_df p_df g_d5 p_d5 g_d6 p_d6}
theorem ev_dx (k : Nat) (x0 : Dm (.imm S_BatBatch)) (x1 : Dm (.imm I)) : E_dx g_df p_df g_d5 p_d5 g_d6 p_d6 k (x0, x1, ()) =
 (cl (p_df (x0, ())) (g_df (x0, ())) fun y0 => (bif (decide (x0.2.2.2.1 = (1 : Int))) then (bif (decide (x1 = (3 : Int))) then (cl (p_d6 (x0, ())) (g_d6 (x0, ())) fun y1 => (bif (bif y1.1 then false else true) then (some (y0.1, (false, ()))) else (some ((y0.1.1, (y0.1.2.1, (y0.1.2.2.1, (x1, y0.1.2.2.2.2)))), (true, ()))))) else (bif (decide (x1 = (2 : Int))) then (cl (p_d5 (x0, ())) (g_d5 (x0, ())) fun y2 => (bif y2.1 then (cl (p_d6 (x0, ())) (g_d6 (x0, ())) fun y3 => (bif (bif y3.1 then false else true) then (some (y0.1, (false, ()))) else (some ((y0.1.1, (y0.1.2.1, (y0.1.2.2.1, (x1, y0.1.2.2.2.2)))), (true, ()))))) else (bif (decide (x0.2.2.2.1 = (2 : Int))) then (cl (p_d6 (x0, ())) (g_d6 (x0, ())) fun y4 => (bif (bif y4.1 then false else true) then (some (y0.1, (false, ()))) else (bif (bif (decide (x1 = (4 : Int))) then false else true) then (some (y0.1, (false, ()))) else (some ((y0.1.1, (y0.1.2.1, (y0.1.2.2.1, (x1, y0.1.2.2.2.2)))), (true, ())))))) else (cl (p_d6 (x0, ())) (g_d6 (x0, ())) fun y5 => (bif (bif y5.1 then false else true) then (some (y0.1, (false, ()))) else (some (y0.1, (false, ())))))))) else (bif (decide (x0.2.2.2.1 = (2 : Int))) then (cl (p_d6 (x0, ())) (g_d6 (x0, ())) fun y6 => (bif (bif y6.1 then false else true) then (some (y0.1, (false, ()))) else (bif (bif (decide (x1 = (4 : Int))) then false else true) then (some (y0.1, (false, ()))) else (some ((y0.1.1, (y0.1.2.1, (y0.1.2.2.1, (x1, y0.1.2.2.2.2)))), (true, ())))))) else (cl (p_d6 (x0, ())) (g_d6 (x0, ())) fun y7 => (bif (bif y7.1 then false else true) then (some (y0.1, (false, ()))) else (some (y0.1, (false, ())))))))) else (bif (decide (x0.2.2.2.1 = (2 : Int))) then (cl (p_d6 (x0, ())) (g_d6 (x0, ())) fun y8 => (bif (bif y8.1 then false else true) then (some (y0.1, (false, ()))) else (bif (bif (decide (x1 = (4 : Int))) then false else true) then (some (y0.1, (false, ()))) else (some ((y0.1.1, (y0.1.2.1, (y0.1.2.2.1, (x1, y0.1.2.2.2.2)))), (true, ())))))) else (cl (p_d6 (x0, ())) (g_d6 (x0, ())) fun y9 => (bif (bif y9.1 then false else true) then (some (y0.1, (false, ()))) else (some (y0.1, (false, ())))))))) := by kernel_rfl
theorem S_dx (h_df : C_df p_df g_df) (h_d5 : C_d5 p_d5 g_d5) (h_d6 : C_d6 p_d6 g_d6) {pre fn} (hev : Hq (E_dx g_df p_df g_d5 p_d5 g_d6 p_d6) pre fn) : C_dx pre fn := sound tysOk mixed (fn := Tryz.f45) rfl rfl rfl (.cons h_df (.cons h_d5 (.cons h_d6 .nil))) _ hev
end
abbrev M_dy : Lm := [.pO S_BatBatch, .pR I, .pR I, .pR S_BatBatch]
abbrev R_dy : Lr := [(.imm, .bool)]
abbrev In_dy := Iq M_dy
abbrev Out_dy := Oq R_dy M_dy
abbrev C_dy := Cq 84 M_dy R_dy
section
variable (g_co : In_co -> Out_co) (g_cp : In_cp -> Out_cp) (g_d0 : In_d0 -> Out_d0) (p_d0 : In_d0 -> Bool)
abbrev X_dy : Ctx := ctx tys 36 (conOf [(77, ⟨M_co, R_co, fun _ => true, g_co⟩), (85, ⟨M_cp, R_cp, fun _ => true, g_cp⟩), (29, ⟨M_d0, R_d0, p_d0, g_d0⟩)]) (keepOf []) nF
abbrev E_dy := evFn (X_dy g_co g_cp g_d0 p_d0) Tryz.f84 R_dy M_dy
variable {g_co g_cp g_d0 p_d0}
theorem ev_dy (k : Nat) (x0 : Dm (.pO S_BatBatch)) (x1 : Dm (.pR I)) (x2 : Dm (.pR I)) (x3 : Dm (.pR S_BatBatch)) : E_dy g_co g_cp g_d0 p_d0 k (x0, x1, x2, x3, ()) =
 (bif (bif (g_co (x1, ())).1 then false else true) then (some (false, (x0, ()))) else (bif (bif (g_cp (x2, ())).1 then false else true) then (some (false, (x0, ()))) else (bif (decide ((List.length x0.2.2.2.2.1 : Int) = (6 : Int))) then (some (false, (x0, ()))) else (cl (p_d0 (x3, ())) (g_d0 (x3, ())) fun y0 => (bif (fitL x0.2.2.2.2.1 [(x1, (x2, y0.1))]) then (some (true, ((x0.1, (x0.2.1, (x0.2.2.1, (x0.2.2.2.1, ((List.append x0.2.2.2.2.1 [(x1, (x2, y0.1))]), x0.2.2.2.2.2))))), ()))) else none))))) := by kernel_rfl
theorem S_dy (h_co : C_co (fun _ => true) g_co) (h_cp : C_cp (fun _ => true) g_cp) (h_d0 : C_d0 p_d0 g_d0) {pre fn} (hev : Hq (E_dy g_co g_cp g_d0 p_d0) pre fn) : C_dy pre fn := sound tysOk mixed (fn := Tryz.f84) rfl rfl rfl (.cons h_co (.cons h_cp (.cons h_d0 .nil))) _ hev
end
abbrev M_dz : Lm := [.imm S_BatBatch, .clo 84 [I, I, S_BatBatch]]
abbrev R_dz : Lr := [(.own, S_BatBatch), (.imm, .bool)]
abbrev In_dz := Iq M_dz
abbrev Out_dz := Oq R_dz M_dz
abbrev C_dz := Cq 83 M_dz R_dz
section
variable (g_df : In_df -> Out_df) (p_df : In_df -> Bool) (g_d6 : In_d6 -> Out_d6) (p_d6 : In_d6 -> Bool) (g_dy : In_dy -> Out_dy) (p_dy : In_dy -> Bool)
abbrev X_dz : Ctx := ctx tys 23 (conOf [(104, ⟨M_df, R_df, p_df, g_df⟩), (34, ⟨M_d6, R_d6, p_d6, g_d6⟩), (84, ⟨M_dy, R_dy, p_dy, g_dy⟩)]) (keepOf []) nF
abbrev E_dz := evFn (X_dz g_df p_df g_d6 p_d6 g_dy p_dy) Tryz.f83 R_dz M_dz
variable {g_df p_df g_d6 p_d6 g_dy p_dy}
theorem ev_dz (k : Nat) (x0 : Dm (.imm S_BatBatch)) (x1 : Dm (.clo 84 [I, I, S_BatBatch])) : E_dz g_df p_df g_d6 p_d6 g_dy p_dy k (x0, x1, ()) =
 (cl (p_df (x0, ())) (g_df (x0, ())) fun y0 => (cl (p_d6 (x0, ())) (g_d6 (x0, ())) fun y1 => (bif (bif y1.1 then false else true) then (some (y0.1, (false, ()))) else (bif (bif (decide (x0.2.2.2.1 = (1 : Int))) then false else true) then (some (y0.1, (false, ()))) else (cl (p_dy (y0.1, (x1.1, (x1.2.1, (x1.2.2.1, ()))))) (g_dy (y0.1, (x1.1, (x1.2.1, (x1.2.2.1, ()))))) fun y2 => (some (y2.2.1, (y2.1, ())))))))) := by kernel_rfl
theorem S_dz (h_df : C_df p_df g_df) (h_d6 : C_d6 p_d6 g_d6) (h_dy : C_dy p_dy g_dy) {pre fn} (hev : Hq (E_dz g_df p_df g_d6 p_d6 g_dy p_dy) pre fn) : C_dz pre fn := sound tysOk mixed (fn := Tryz.f83) rfl rfl rfl (.cons h_df (.cons h_d6 (.cons h_dy .nil))) _ hev
end
abbrev M_e0 : Lm := [.imm S_BatBatch, .imm I, .imm I]
abbrev R_e0 : Lr := [(.own, S_BatBatch), (.imm, .bool)]
abbrev In_e0 := Iq M_e0
abbrev Out_e0 := Oq R_e0 M_e0
abbrev C_e0 := Cq 31 M_e0 R_e0
section
variable (g_dz : In_dz -> Out_dz) (p_dz : In_dz -> Bool)
abbrev X_e0 : Ctx := ctx tys 13 (conOf [(83, ⟨M_dz, R_dz, p_dz, g_dz⟩)]) (keepOf []) nF
abbrev E_e0 := evFn (X_e0 g_dz p_dz) Tryz.f31 R_e0 M_e0
variable {g_dz p_dz}
theorem ev_e0 (k : Nat) (x0 : Dm (.imm S_BatBatch)) (x1 : Dm (.imm I)) (x2 : Dm (.imm I)) : E_e0 g_dz p_dz k (x0, x1, x2, ()) =
 (cl (p_dz (x0, ((x1, (x2, (x0, ()))), ()))) (g_dz (x0, ((x1, (x2, (x0, ()))), ()))) fun y0 => (some (y0.1, (y0.2.1, ())))) := by kernel_rfl
theorem S_e0 (h_dz : C_dz p_dz g_dz) {pre fn} (hev : Hq (E_e0 g_dz p_dz) pre fn) : C_e0 pre fn := sound tysOk mixed (fn := Tryz.f31) rfl rfl rfl (.cons h_dz .nil) _ hev
end
abbrev M_e1 : Lm := [.pO S_BatBatch, .pR .bool, .pR I]
abbrev R_e1 : Lr := [(.imm, .bool)]
abbrev In_e1 := Iq M_e1
abbrev Out_e1 := Oq R_e1 M_e1
abbrev C_e1 := Cq 92 M_e1 R_e1
section
variable (g_iin : In_iin -> Out_iin)
abbrev X_e1 : Ctx := ctx tys 55 (conOf [(65, ⟨M_iin, R_iin, fun _ => true, g_iin⟩)]) (keepOf []) nF
abbrev E_e1 := evFn (X_e1 g_iin) Tryz.f92 R_e1 M_e1
variable {g_iin}
theorem ev_e1 (k : Nat) (x0 : Dm (.pO S_BatBatch)) (x1 : Dm (.pR .bool)) (x2 : Dm (.pR I)) : E_e1 g_iin k (x0, x1, x2, ()) =
 (bif x1 then (bif (decide (x2 = (List.length x0.2.2.2.2.2 : Int))) then (bif (decide (x2 < (3 : Int))) then (bif (fitL x0.2.2.2.2.2 [true]) then (some (true, ((x0.1, (x0.2.1, (x0.2.2.1, (x0.2.2.2.1, (x0.2.2.2.2.1, (List.append x0.2.2.2.2.2 [true])))))), ()))) else none) else (bif (bif x1 then false else true) then (bif (g_iin (x2, ((0 : Int), ((w64 ((List.length x0.2.2.2.2.2 : Int) - (1 : Int))), ())))).1 then (bif (bif (decide ((0 : Int) <= x2)) then (decide (x2 < (List.length x0.2.2.2.2.2 : Int))) else false) then (bif (rdL (e := Sh.bool) x0.2.2.2.2.2 x2) then (bif (bif (decide ((0 : Int) <= x2)) then (decide (x2 < (List.length x0.2.2.2.2.2 : Int))) else false) then (some (true, ((x0.1, (x0.2.1, (x0.2.2.1, (x0.2.2.2.1, (x0.2.2.2.2.1, (List.set x0.2.2.2.2.2 (Int.toNat x2) false)))))), ()))) else none) else (some (false, (x0, ())))) else none) else (some (false, (x0, ())))) else (some (false, (x0, ()))))) else (bif (bif x1 then false else true) then (bif (g_iin (x2, ((0 : Int), ((w64 ((List.length x0.2.2.2.2.2 : Int) - (1 : Int))), ())))).1 then (bif (bif (decide ((0 : Int) <= x2)) then (decide (x2 < (List.length x0.2.2.2.2.2 : Int))) else false) then (bif (rdL (e := Sh.bool) x0.2.2.2.2.2 x2) then (bif (bif (decide ((0 : Int) <= x2)) then (decide (x2 < (List.length x0.2.2.2.2.2 : Int))) else false) then (some (true, ((x0.1, (x0.2.1, (x0.2.2.1, (x0.2.2.2.1, (x0.2.2.2.2.1, (List.set x0.2.2.2.2.2 (Int.toNat x2) false)))))), ()))) else none) else (some (false, (x0, ())))) else none) else (some (false, (x0, ())))) else (some (false, (x0, ()))))) else (bif (bif x1 then false else true) then (bif (g_iin (x2, ((0 : Int), ((w64 ((List.length x0.2.2.2.2.2 : Int) - (1 : Int))), ())))).1 then (bif (bif (decide ((0 : Int) <= x2)) then (decide (x2 < (List.length x0.2.2.2.2.2 : Int))) else false) then (bif (rdL (e := Sh.bool) x0.2.2.2.2.2 x2) then (bif (bif (decide ((0 : Int) <= x2)) then (decide (x2 < (List.length x0.2.2.2.2.2 : Int))) else false) then (some (true, ((x0.1, (x0.2.1, (x0.2.2.1, (x0.2.2.2.1, (x0.2.2.2.2.1, (List.set x0.2.2.2.2.2 (Int.toNat x2) false)))))), ()))) else none) else (some (false, (x0, ())))) else none) else (some (false, (x0, ())))) else (some (false, (x0, ()))))) := by kernel_rfl
theorem S_e1 (h_iin : C_iin (fun _ => true) g_iin) {pre fn} (hev : Hq (E_e1 g_iin) pre fn) : C_e1 pre fn := sound tysOk mixed (fn := Tryz.f92) rfl rfl rfl (.cons h_iin .nil) _ hev
end
abbrev M_e2 : Lm := [.imm S_BatBatch, .clo 92 [.bool, I]]
abbrev R_e2 : Lr := [(.own, S_BatBatch), (.imm, .bool)]
abbrev In_e2 := Iq M_e2
abbrev Out_e2 := Oq R_e2 M_e2
abbrev C_e2 := Cq 83 M_e2 R_e2
section
variable (g_df : In_df -> Out_df) (p_df : In_df -> Bool) (g_d6 : In_d6 -> Out_d6) (p_d6 : In_d6 -> Bool) (g_e1 : In_e1 -> Out_e1) (p_e1 : In_e1 -> Bool)
abbrev X_e2 : Ctx := ctx tys 23 (conOf [(104, ⟨M_df, R_df, p_df, g_df⟩), (34, ⟨M_d6, R_d6, p_d6, g_d6⟩), (92, ⟨M_e1, R_e1, p_e1, g_e1⟩)]) (keepOf []) nF
abbrev E_e2 := evFn (X_e2 g_df p_df g_d6 p_d6 g_e1 p_e1) Tryz.f83 R_e2 M_e2
variable {g_df p_df g_d6 p_d6 g_e1 p_e1}
theorem ev_e2 (k : Nat) (x0 : Dm (.imm S_BatBatch)) (x1 : Dm (.clo 92 [.bool, I])) : E_e2 g_df p_df g_d6 p_d6 g_e1 p_e1 k (x0, x1, ()) =
 (cl (p_df (x0, ())) (g_df (x0, ())) fun y0 => (cl (p_d6 (x0, ())) (g_d6 (x0, ())) fun y1 => (bif (bif y1.1 then false else true) then (some (y0.1, (false, ()))) else (bif (bif (decide (x0.2.2.2.1 = (1 : Int))) then false else true) then (some (y0.1, (false, ()))) else (cl (p_e1 (y0.1, (x1.1, (x1.2.1, ())))) (g_e1 (y0.1, (x1.1, (x1.2.1, ())))) fun y2 => (some (y2.2.1, (y2.1, ())))))))) := by kernel_rfl
theorem S_e2 (h_df : C_df p_df g_df) (h_d6 : C_d6 p_d6 g_d6) (h_e1 : C_e1 p_e1 g_e1) {pre fn} (hev : Hq (E_e2 g_df p_df g_d6 p_d6 g_e1 p_e1) pre fn) : C_e2 pre fn := sound tysOk mixed (fn := Tryz.f83) rfl rfl rfl (.cons h_df (.cons h_d6 (.cons h_e1 .nil))) _ hev
end
abbrev M_e3 : Lm := [.imm S_BatBatch, .imm I, .imm .bool]
abbrev R_e3 : Lr := [(.own, S_BatBatch), (.imm, .bool)]
abbrev In_e3 := Iq M_e3
abbrev Out_e3 := Oq R_e3 M_e3
abbrev C_e3 := Cq 36 M_e3 R_e3
section
variable (g_e2 : In_e2 -> Out_e2) (p_e2 : In_e2 -> Bool)
abbrev X_e3 : Ctx := ctx tys 13 (conOf [(83, ⟨M_e2, R_e2, p_e2, g_e2⟩)]) (keepOf []) nF
abbrev E_e3 := evFn (X_e3 g_e2 p_e2) Tryz.f36 R_e3 M_e3
variable {g_e2 p_e2}
theorem ev_e3 (k : Nat) (x0 : Dm (.imm S_BatBatch)) (x1 : Dm (.imm I)) (x2 : Dm (.imm .bool)) : E_e3 g_e2 p_e2 k (x0, x1, x2, ()) =
 (cl (p_e2 (x0, ((x2, (x1, ())), ()))) (g_e2 (x0, ((x2, (x1, ())), ()))) fun y0 => (some (y0.1, (y0.2.1, ())))) := by kernel_rfl
theorem S_e3 (h_e2 : C_e2 p_e2 g_e2) {pre fn} (hev : Hq (E_e3 g_e2 p_e2) pre fn) : C_e3 pre fn := sound tysOk mixed (fn := Tryz.f36) rfl rfl rfl (.cons h_e2 .nil) _ hev
end
abbrev M_lFnBatShut : Lm := [.imm L_u8]
abbrev R_lFnBatShut : Lr := [(.own, .bool)]
abbrev In_lFnBatShut := Iq M_lFnBatShut
abbrev Out_lFnBatShut := Oq R_lFnBatShut M_lFnBatShut
abbrev C_lFnBatShut := Cq 9 M_lFnBatShut R_lFnBatShut
section
variable (g_c1 : In_c1 -> Out_c1) (p_c1 : In_c1 -> Bool) (g_bb : In_bb -> Out_bb) (p_bb : In_bb -> Bool) (g_d6 : In_d6 -> Out_d6) (p_d6 : In_d6 -> Bool) (g_da : In_da -> Out_da) (g_dt : In_dt -> Out_dt) (p_dt : In_dt -> Bool) (g_bg : In_bg -> Out_bg) (p_bg : In_bg -> Bool) (g_dw : In_dw -> Out_dw) (p_dw : In_dw -> Bool) (g_dx : In_dx -> Out_dx) (p_dx : In_dx -> Bool) (g_e0 : In_e0 -> Out_e0) (p_e0 : In_e0 -> Bool) (g_e3 : In_e3 -> Out_e3) (p_e3 : In_e3 -> Bool)
abbrev X_lFnBatShut : Ctx := ctx tys 142 (conOf [(38, ⟨M_c1, R_c1, p_c1, g_c1⟩), (28, ⟨M_bb, R_bb, p_bb, g_bb⟩), (34, ⟨M_d6, R_d6, p_d6, g_d6⟩), (19, ⟨M_da, R_da, fun _ => true, g_da⟩), (39, ⟨M_dt, R_dt, p_dt, g_dt⟩), (40, ⟨M_bg, R_bg, p_bg, g_bg⟩), (21, ⟨M_dw, R_dw, p_dw, g_dw⟩), (45, ⟨M_dx, R_dx, p_dx, g_dx⟩), (31, ⟨M_e0, R_e0, p_e0, g_e0⟩), (36, ⟨M_e3, R_e3, p_e3, g_e3⟩)]) (keepOf []) nF
abbrev E_lFnBatShut := evFn (X_lFnBatShut g_c1 p_c1 g_bb p_bb g_d6 p_d6 g_da g_dt p_dt g_bg p_bg g_dw p_dw g_dx p_dx g_e0 p_e0 g_e3 p_e3) Tryz.f9 R_lFnBatShut M_lFnBatShut
variable {g_c1 p_c1 g_bb p_bb g_d6 p_d6 g_da g_dt p_dt g_bg p_bg g_dw p_dw g_dx p_dx g_e0 p_e0 g_e3 p_e3}
theorem ev_lFnBatShut (k : Nat) (x0 : Dm (.imm L_u8)) : E_lFnBatShut g_c1 p_c1 g_bb p_bb g_d6 p_d6 g_da g_dt p_dt g_bg p_bg g_dw p_dw g_dx p_dx g_e0 p_e0 g_e3 p_e3 k (x0, ()) =
 (bif (decide ((1048576 : Int) < (List.length x0 : Int))) then (some (true, ())) else (cl (p_c1 (x0, ())) (g_c1 (x0, ())) fun y0 => (cl (p_bb (y0.1, ())) (g_bb (y0.1, ())) fun y1 => (bif (bif y1.1 then false else true) then (cl (p_d6 (y0.1, ())) (g_d6 (y0.1, ())) fun y2 => (bif (bif y2.1 then false else true) then (some ((g_da ()).1, ())) else (some (false, ())))) else (cl (p_dt (y0.1, (y0.2.1, (y0.2.2.1, (y0.2.2.2.1, (y0.2.2.2.2.1, ())))))) (g_dt (y0.1, (y0.2.1, (y0.2.2.1, (y0.2.2.2.1, (y0.2.2.2.2.1, ())))))) fun y3 => (cl (p_bg (y0.1, (y0.2.1, (y0.2.2.1, (y0.2.2.2.1, (y0.2.2.2.2.1, ())))))) (g_bg (y0.1, (y0.2.1, (y0.2.2.1, (y0.2.2.2.1, (y0.2.2.2.2.1, ())))))) fun y4 => (cl (p_dw (y3.1, (y4.1, ()))) (g_dw (y3.1, (y4.1, ()))) fun y5 => (bif (bif y5.1 then false else true) then (some (false, ())) else (bif (bif (y3.2.1 == y4.2.1) then false else true) then (some (false, ())) else (bif (decide (y0.1.2.2.2.1 = (1 : Int))) then (cl (p_dx (y0.1, ((3 : Int), ()))) (g_dx (y0.1, ((3 : Int), ()))) fun y6 => (cl (p_dt (y6.1, (y0.2.1, (y0.2.2.1, (y0.2.2.2.1, (y0.2.2.2.2.1, ())))))) (g_dt (y6.1, (y0.2.1, (y0.2.2.1, (y0.2.2.2.1, (y0.2.2.2.2.1, ())))))) fun y7 => (cl (p_e0 (y6.1, ((2 : Int), ((2 : Int), ())))) (g_e0 (y6.1, ((2 : Int), ((2 : Int), ())))) fun y8 => (cl (p_e3 (y6.1, ((List.length y6.1.2.2.2.2.2 : Int), (true, ())))) (g_e3 (y6.1, ((List.length y6.1.2.2.2.2.2 : Int), (true, ())))) fun y9 => (bif y6.2.1 then (bif (bif y7.2.1 then false else true) then (bif (bif y8.2.1 then false else true) then (some ((bif y9.2.1 then false else true), ())) else (some (false, ()))) else (some (false, ()))) else (some (false, ()))))))) else (cl (p_e0 (y0.1, ((2 : Int), ((2 : Int), ())))) (g_e0 (y0.1, ((2 : Int), ((2 : Int), ())))) fun y10 => (cl (p_e3 (y0.1, ((List.length y0.1.2.2.2.2.2 : Int), (true, ())))) (g_e3 (y0.1, ((List.length y0.1.2.2.2.2.2 : Int), (true, ())))) fun y11 => (bif (bif y3.2.1 then false else true) then (bif (bif y10.2.1 then false else true) then (bif (bif y11.2.1 then false else true) then (cl (p_dw (y3.1, (y0.1, ()))) (g_dw (y3.1, (y0.1, ()))) fun y12 => (some (y12.1, ()))) else (some (false, ()))) else (some (false, ()))) else (some (false, ()))))))))))))))) := by kernel_rfl
theorem S_lFnBatShut (h_c1 : C_c1 p_c1 g_c1) (h_bb : C_bb p_bb g_bb) (h_d6 : C_d6 p_d6 g_d6) (h_da : C_da (fun _ => true) g_da) (h_dt : C_dt p_dt g_dt) (h_bg : C_bg p_bg g_bg) (h_dw : C_dw p_dw g_dw) (h_dx : C_dx p_dx g_dx) (h_e0 : C_e0 p_e0 g_e0) (h_e3 : C_e3 p_e3 g_e3) {pre fn} (hev : Hq (E_lFnBatShut g_c1 p_c1 g_bb p_bb g_d6 p_d6 g_da g_dt p_dt g_bg p_bg g_dw p_dw g_dx p_dx g_e0 p_e0 g_e3 p_e3) pre fn) : C_lFnBatShut pre fn := sound tysOk mixed (fn := Tryz.f9) rfl rfl rfl (.cons h_c1 (.cons h_bb (.cons h_d6 (.cons h_da (.cons h_dt (.cons h_bg (.cons h_dw (.cons h_dx (.cons h_e0 (.cons h_e3 .nil)))))))))) _ hev
end
end
end Go.Proofs.YtddpemilmeijfaaGreat
