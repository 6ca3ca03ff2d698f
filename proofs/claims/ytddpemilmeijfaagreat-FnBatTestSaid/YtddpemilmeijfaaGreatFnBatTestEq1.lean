/- The functions of the seat, evaluated: equations, checked by the kernel. Made by a program. -/
import Derived.Test.YtddpemilmeijfaaGreatFnBatTestEq0
set_option linter.unusedVariables false
set_option maxRecDepth 100000
namespace Go.Proofs.YtddpemilmeijfaaGreat
open Go.Vm
noncomputable section
abbrev M_cx : Lm := [.imm L_BatSig, .clo 89 []]
abbrev R_cx : Lr := [(.imm, I)]
abbrev In_cx := Iq M_cx
abbrev Out_cx := Oq R_cx M_cx
abbrev C_cx := Cq 158 M_cx R_cx
section
variable (g_cw : In_cw -> Out_cw) (p_cw : In_cw -> Bool)
abbrev X_cx : Ctx := ctx tys 19 (conOf [(89, ⟨M_cw, R_cw, p_cw, g_cw⟩)]) (keepOf [(pt1, (⟨[(0, .asis), (1, .asis), (7, .asis), (8, .asis)], [], []⟩ : Keep))]) nF
abbrev E_cx := evFn (X_cx g_cw p_cw) Tryz.f158 R_cx M_cx
def h0_cx (x0 : Dm (.imm L_BatSig)) (x1 : Dm (.clo 89 [])) (h0 : Dn I) (h1 : Dn I) : St := mkS [(0, (AV.val L_BatSig x0)), (1, (AV.fn 89 [])), (7, (AV.val I h0)), (8, (AV.val I h1))] []
def r_cx := rounds (X_cx g_cw p_cw) Tryz.f158 R_cx M_cx
variable {g_cw p_cw}
theorem ev_cx (k : Nat) (x0 : Dm (.imm L_BatSig)) (x1 : Dm (.clo 89 [])) : E_cx g_cw p_cw k (x0, x1, ()) =
 (r_cx g_cw p_cw (x0, x1, ()) k pt1 (h0_cx x0 x1 (List.length x0 : Int) (0 : Int))) := by kernel_rfl
theorem rd0_cx (k : Nat) (x0 : Dm (.imm L_BatSig)) (x1 : Dm (.clo 89 [])) (h0 : Dn I) (h1 : Dn I) : r_cx g_cw p_cw (x0, x1, ()) (k + 1) pt1 (h0_cx x0 x1 h0 h1) =
 (bif (decide (h1 < h0)) then (bif (bif (decide ((0 : Int) <= h1)) then (decide (h1 < (List.length x0 : Int))) else false) then (cl (p_cw ((rdL (e := S_BatSig) x0 h1), ())) (g_cw ((rdL (e := S_BatSig) x0 h1), ())) fun y0 => (bif y0.1 then (some (h1, ())) else (r_cx g_cw p_cw (x0, x1, ()) k pt1 (h0_cx x0 x1 h0 (w64 (h1 + (1 : Int))))))) else none) else (some ((-1 : Int), ()))) := by kernel_rfl
theorem S_cx (h_cw : C_cw p_cw g_cw) {pre fn} (hev : Hq (E_cx g_cw p_cw) pre fn) : C_cx pre fn := sound tysOk mixed (fn := Tryz.f158) rfl rfl rfl (.cons h_cw .nil) _ hev
end
abbrev M_cy : Lm := [.imm L_BatSig, .clo 89 []]
abbrev R_cy : Lr := [(.imm, .bool)]
abbrev In_cy := Iq M_cy
abbrev Out_cy := Oq R_cy M_cy
abbrev C_cy := Cq 91 M_cy R_cy
section
variable (g_cx : In_cx -> Out_cx) (p_cx : In_cx -> Bool)
abbrev X_cy : Ctx := ctx tys 9 (conOf [(158, ⟨M_cx, R_cx, p_cx, g_cx⟩)]) (keepOf []) nF
abbrev E_cy := evFn (X_cy g_cx p_cx) Tryz.f91 R_cy M_cy
variable {g_cx p_cx}
theorem ev_cy (k : Nat) (x0 : Dm (.imm L_BatSig)) (x1 : Dm (.clo 89 [])) : E_cy g_cx p_cx k (x0, x1, ()) =
 (cl (p_cx (x0, ((), ()))) (g_cx (x0, ((), ()))) fun y0 => (some ((decide ((0 : Int) <= y0.1)), ()))) := by kernel_rfl
theorem S_cy (h_cx : C_cx p_cx g_cx) {pre fn} (hev : Hq (E_cy g_cx p_cx) pre fn) : C_cy pre fn := sound tysOk mixed (fn := Tryz.f91) rfl rfl rfl (.cons h_cx .nil) _ hev
end
abbrev M_cz : Lm := [.imm S_TstTest]
abbrev R_cz : Lr := [(.imm, .bool)]
abbrev In_cz := Iq M_cz
abbrev Out_cz := Oq R_cz M_cz
abbrev C_cz := Cq 144 M_cz R_cz
abbrev X_cz : Ctx := ctx tys 6 (conOf []) (keepOf []) nF
abbrev E_cz := evFn X_cz Tryz.f144 R_cz M_cz
theorem ev_cz (k : Nat) (x0 : Dm (.imm S_TstTest)) : E_cz k (x0, ()) =
 (some ((bif (decide (x0.2.1 = (3 : Int))) then false else true), ())) := by kernel_rfl
theorem S_cz  {pre fn} (hev : Hq E_cz pre fn) : C_cz pre fn := sound tysOk mixed (fn := Tryz.f144) rfl rfl rfl ConsOk.nil _ hev
abbrev M_d0 : Lm := [.imm L_TstTest, .clo 144 []]
abbrev R_d0 : Lr := [(.imm, I)]
abbrev In_d0 := Iq M_d0
abbrev Out_d0 := Oq R_d0 M_d0
abbrev C_d0 := Cq 96 M_d0 R_d0
section
variable (g_cz : In_cz -> Out_cz)
abbrev X_d0 : Ctx := ctx tys 19 (conOf [(144, ⟨M_cz, R_cz, fun _ => true, g_cz⟩)]) (keepOf [(pt1, (⟨[(0, .asis), (1, .asis), (7, .asis), (8, .asis)], [], []⟩ : Keep))]) nF
abbrev E_d0 := evFn (X_d0 g_cz) Tryz.f96 R_d0 M_d0
def h0_d0 (x0 : Dm (.imm L_TstTest)) (x1 : Dm (.clo 144 [])) (h0 : Dn I) (h1 : Dn I) : St := mkS [(0, (AV.val L_TstTest x0)), (1, (AV.fn 144 [])), (7, (AV.val I h0)), (8, (AV.val I h1))] []
def r_d0 := rounds (X_d0 g_cz) Tryz.f96 R_d0 M_d0
variable {g_cz}
theorem ev_d0 (k : Nat) (x0 : Dm (.imm L_TstTest)) (x1 : Dm (.clo 144 [])) : E_d0 g_cz k (x0, x1, ()) =
 (r_d0 g_cz (x0, x1, ()) k pt1 (h0_d0 x0 x1 (List.length x0 : Int) (0 : Int))) := by kernel_rfl
theorem rd0_d0 (k : Nat) (x0 : Dm (.imm L_TstTest)) (x1 : Dm (.clo 144 [])) (h0 : Dn I) (h1 : Dn I) : r_d0 g_cz (x0, x1, ()) (k + 1) pt1 (h0_d0 x0 x1 h0 h1) =
 (bif (decide (h1 < h0)) then (bif (bif (decide ((0 : Int) <= h1)) then (decide (h1 < (List.length x0 : Int))) else false) then (bif (g_cz ((rdL (e := S_TstTest) x0 h1), ())).1 then (some (h1, ())) else (r_d0 g_cz (x0, x1, ()) k pt1 (h0_d0 x0 x1 h0 (w64 (h1 + (1 : Int)))))) else none) else (some ((-1 : Int), ()))) := by kernel_rfl
theorem S_d0 (h_cz : C_cz (fun _ => true) g_cz) {pre fn} (hev : Hq (E_d0 g_cz) pre fn) : C_d0 pre fn := sound tysOk mixed (fn := Tryz.f96) rfl rfl rfl (.cons h_cz .nil) _ hev
end
abbrev M_d1 : Lm := [.imm L_TstTest, .clo 144 []]
abbrev R_d1 : Lr := [(.imm, .bool)]
abbrev In_d1 := Iq M_d1
abbrev Out_d1 := Oq R_d1 M_d1
abbrev C_d1 := Cq 145 M_d1 R_d1
section
variable (g_d0 : In_d0 -> Out_d0) (p_d0 : In_d0 -> Bool)
abbrev X_d1 : Ctx := ctx tys 9 (conOf [(96, ⟨M_d0, R_d0, p_d0, g_d0⟩)]) (keepOf []) nF
abbrev E_d1 := evFn (X_d1 g_d0 p_d0) Tryz.f145 R_d1 M_d1
variable {g_d0 p_d0}
theorem ev_d1 (k : Nat) (x0 : Dm (.imm L_TstTest)) (x1 : Dm (.clo 144 [])) : E_d1 g_d0 p_d0 k (x0, x1, ()) =
 (cl (p_d0 (x0, ((), ()))) (g_d0 (x0, ((), ()))) fun y0 => (some ((decide ((0 : Int) <= y0.1)), ()))) := by kernel_rfl
theorem S_d1 (h_d0 : C_d0 p_d0 g_d0) {pre fn} (hev : Hq (E_d1 g_d0 p_d0) pre fn) : C_d1 pre fn := sound tysOk mixed (fn := Tryz.f145) rfl rfl rfl (.cons h_d0 .nil) _ hev
end
abbrev M_d2 : Lm := [.imm L_bool, .imm .bool]
abbrev R_d2 : Lr := [(.imm, I)]
abbrev In_d2 := Iq M_d2
abbrev Out_d2 := Oq R_d2 M_d2
abbrev C_d2 := Cq 189 M_d2 R_d2
abbrev X_d2 : Ctx := ctx tys 19 (conOf []) (keepOf [(pt1, (⟨[(0, .asis), (1, .asis), (7, .asis), (8, .asis)], [], []⟩ : Keep))]) nF
abbrev E_d2 := evFn X_d2 Tryz.f189 R_d2 M_d2
def h0_d2 (x0 : Dm (.imm L_bool)) (x1 : Dm (.imm .bool)) (h0 : Dn I) (h1 : Dn I) : St := mkS [(0, (AV.val L_bool x0)), (1, (AV.val Sh.bool x1)), (7, (AV.val I h0)), (8, (AV.val I h1))] []
def r_d2 := rounds X_d2 Tryz.f189 R_d2 M_d2
theorem ev_d2 (k : Nat) (x0 : Dm (.imm L_bool)) (x1 : Dm (.imm .bool)) : E_d2 k (x0, x1, ()) =
 (r_d2  (x0, x1, ()) k pt1 (h0_d2 x0 x1 (List.length x0 : Int) (0 : Int))) := by kernel_rfl
theorem rd0_d2 (k : Nat) (x0 : Dm (.imm L_bool)) (x1 : Dm (.imm .bool)) (h0 : Dn I) (h1 : Dn I) : r_d2  (x0, x1, ()) (k + 1) pt1 (h0_d2 x0 x1 h0 h1) =
 (bif (decide (h1 < h0)) then (bif (bif (decide ((0 : Int) <= h1)) then (decide (h1 < (List.length x0 : Int))) else false) then (bif (x1 == (rdL (e := Sh.bool) x0 h1)) then (some (h1, ())) else (r_d2  (x0, x1, ()) k pt1 (h0_d2 x0 x1 h0 (w64 (h1 + (1 : Int)))))) else none) else (some ((-1 : Int), ()))) := by kernel_rfl
theorem S_d2  {pre fn} (hev : Hq E_d2 pre fn) : C_d2 pre fn := sound tysOk mixed (fn := Tryz.f189) rfl rfl rfl ConsOk.nil _ hev
abbrev M_d3 : Lm := [.imm L_bool, .imm .bool]
abbrev R_d3 : Lr := [(.imm, .bool)]
abbrev In_d3 := Iq M_d3
abbrev Out_d3 := Oq R_d3 M_d3
abbrev C_d3 := Cq 146 M_d3 R_d3
section
variable (g_d2 : In_d2 -> Out_d2) (p_d2 : In_d2 -> Bool)
abbrev X_d3 : Ctx := ctx tys 9 (conOf [(189, ⟨M_d2, R_d2, p_d2, g_d2⟩)]) (keepOf []) nF
abbrev E_d3 := evFn (X_d3 g_d2 p_d2) Tryz.f146 R_d3 M_d3
variable {g_d2 p_d2}
theorem ev_d3 (k : Nat) (x0 : Dm (.imm L_bool)) (x1 : Dm (.imm .bool)) : E_d3 g_d2 p_d2 k (x0, x1, ()) =
 (cl (p_d2 (x0, (x1, ()))) (g_d2 (x0, (x1, ()))) fun y0 => (some ((decide ((0 : Int) <= y0.1)), ()))) := by kernel_rfl
theorem S_d3 (h_d2 : C_d2 p_d2 g_d2) {pre fn} (hev : Hq (E_d3 g_d2 p_d2) pre fn) : C_d3 pre fn := sound tysOk mixed (fn := Tryz.f146) rfl rfl rfl (.cons h_d2 .nil) _ hev
end
abbrev M_d4 : Lm := [.imm I, .imm L_int]
abbrev R_d4 : Lr := [(.imm, I)]
abbrev In_d4 := Iq M_d4
abbrev Out_d4 := Oq R_d4 M_d4
abbrev C_d4 := Cq 82 M_d4 R_d4
abbrev X_d4 : Ctx := ctx tys 23 (conOf []) (keepOf [(pt1, (⟨[(0, .asis), (7, .asis), (8, .asis), (9, .asis)], [], []⟩ : Keep))]) nF
abbrev E_d4 := evFn X_d4 Tryz.f82 R_d4 M_d4
def h0_d4 (x0 : Dm (.imm I)) (x1 : Dm (.imm L_int)) (h0 : Dn I) (h1 : Dn I) (h2 : Dn I) : St := mkS [(0, (AV.val I h0)), (7, (AV.val L_int x1)), (8, (AV.val I h1)), (9, (AV.val I h2))] []
def r_d4 := rounds X_d4 Tryz.f82 R_d4 M_d4
theorem ev_d4 (k : Nat) (x0 : Dm (.imm I)) (x1 : Dm (.imm L_int)) : E_d4 k (x0, x1, ()) =
 (r_d4  (x0, x1, ()) k pt1 (h0_d4 x0 x1 x0 (List.length x1 : Int) (0 : Int))) := by kernel_rfl
theorem rd0_d4 (k : Nat) (x0 : Dm (.imm I)) (x1 : Dm (.imm L_int)) (h0 : Dn I) (h1 : Dn I) (h2 : Dn I) : r_d4  (x0, x1, ()) (k + 1) pt1 (h0_d4 x0 x1 h0 h1 h2) =
 (bif (decide (h2 < h1)) then (bif (bif (decide ((0 : Int) <= h2)) then (decide (h2 < (List.length x1 : Int))) else false) then (bif (bif (decide ((999983 : Int) = (0 : Int))) then false else true) then (bif (bif (decide ((999983 : Int) = (0 : Int))) then false else true) then (r_d4  (x0, x1, ()) k pt1 (h0_d4 x0 x1 (Int.tmod (w64 ((w64 ((w64 ((w64 (h0 * (8191 : Int))) + (Int.tmod (rdL (e := I) x1 h2) (999983 : Int)))) + (999983 : Int))) + (7 : Int))) (999983 : Int)) h1 (w64 (h2 + (1 : Int))))) else none) else none) else none) else (some (h0, ()))) := by kernel_rfl
theorem S_d4  {pre fn} (hev : Hq E_d4 pre fn) : C_d4 pre fn := sound tysOk mixed (fn := Tryz.f82) rfl rfl rfl ConsOk.nil _ hev
abbrev M_d5 : Lm := [.imm S_BatBatch]
abbrev R_d5 : Lr := [(.imm, I)]
abbrev In_d5 := Iq M_d5
abbrev Out_d5 := Oq R_d5 M_d5
abbrev C_d5 := Cq 29 M_d5 R_d5
section
variable (g_d4 : In_d4 -> Out_d4) (p_d4 : In_d4 -> Bool)
abbrev X_d5 : Ctx := ctx tys 69 (conOf [(82, ⟨M_d4, R_d4, p_d4, g_d4⟩)]) (keepOf [(pt2, (⟨[(3, .asis), (51, .asis), (52, .asis), (53, .asis)], [], []⟩ : Keep)), (pt8, (⟨[(1, .asis), (3, .asis), (15, .asis), (16, .asis), (17, .asis), (35, .asis), (36, .asis), (37, .asis)], [(1, .asis)], []⟩ : Keep)), (pt0, (⟨[(1, .asis), (3, .asis), (15, .asis), (16, .asis), (17, .asis)], [(1, .asis)], []⟩ : Keep))]) nF
abbrev E_d5 := evFn (X_d5 g_d4 p_d4) Tryz.f29 R_d5 M_d5
def h0_d5 (x0 : Dm (.imm S_BatBatch)) (h0 : Dn I) (h1 : Dn I) (h2 : Dn I) : St := mkS [(1, (AV.ptr 1 none [])), (3, (AV.val I h0)), (15, (AV.val L_TstTest x0.2.2.1)), (16, (AV.val I h1)), (17, (AV.val I h2))] [(1, (Ob.box S_BatBatch (AV.val S_BatBatch x0)))]
def h1_d5 (x0 : Dm (.imm S_BatBatch)) (h0 : Dn I) (h1 : Dn I) (h2 : Dn I) (h3 : Dn L_DecDec) (h4 : Dn I) (h5 : Dn I) : St := mkS [(1, (AV.ptr 1 none [])), (3, (AV.val I h0)), (15, (AV.val L_TstTest x0.2.2.1)), (16, (AV.val I h1)), (17, (AV.val I h2)), (35, (AV.val L_DecDec h3)), (36, (AV.val I h4)), (37, (AV.val I h5))] [(1, (Ob.box S_BatBatch (AV.val S_BatBatch x0)))]
def h2_d5 (x0 : Dm (.imm S_BatBatch)) (h0 : Dn I) (h1 : Dn I) (h2 : Dn I) : St := mkS [(3, (AV.val I h0)), (51, (AV.val L_bool x0.2.2.2.2.2)), (52, (AV.val I h1)), (53, (AV.val I h2))] []
def r_d5 := rounds (X_d5 g_d4 p_d4) Tryz.f29 R_d5 M_d5
variable {g_d4 p_d4}
theorem ev_d5 (k : Nat) (x0 : Dm (.imm S_BatBatch)) : E_d5 g_d4 p_d4 k (x0, ()) =
 (cl (p_d4 ((1 : Int), ([x0.1], ()))) (g_d4 ((1 : Int), ([x0.1], ()))) fun y0 => (r_d5 g_d4 p_d4 (x0, ()) k pt0 (h0_d5 x0 (y0.1) (List.length x0.2.2.1 : Int) (0 : Int)))) := by kernel_rfl
theorem rd0_d5 (k : Nat) (x0 : Dm (.imm S_BatBatch)) (h0 : Dn I) (h1 : Dn I) (h2 : Dn I) : r_d5 g_d4 p_d4 (x0, ()) (k + 1) pt0 (h0_d5 x0 h0 h1 h2) =
 (lt (rdL (e := S_TstTest) x0.2.2.1 h2) fun s0 => (bif (decide (h2 < h1)) then (bif (bif (decide ((0 : Int) <= h2)) then (decide (h2 < (List.length x0.2.2.1 : Int))) else false) then (cl (p_d4 (h0, ([(s0.2.1), (s0.2.2.1.1), (s0.2.2.1.2), (s0.2.2.2.1)], ()))) (g_d4 (h0, ([(s0.2.1), (s0.2.2.1.1), (s0.2.2.1.2), (s0.2.2.2.1)], ()))) fun y0 => (r_d5 g_d4 p_d4 (x0, ()) k pt8 (h1_d5 x0 (y0.1) h1 h2 (s0.2.2.2.2) (List.length s0.2.2.2.2 : Int) (0 : Int)))) else none) else (r_d5 g_d4 p_d4 (x0, ()) k pt2 (h2_d5 x0 h0 (List.length x0.2.2.2.2.2 : Int) (0 : Int))))) := by kernel_rfl
theorem rd1_d5 (k : Nat) (x0 : Dm (.imm S_BatBatch)) (h0 : Dn I) (h1 : Dn I) (h2 : Dn I) (h3 : Dn L_DecDec) (h4 : Dn I) (h5 : Dn I) : r_d5 g_d4 p_d4 (x0, ()) (k + 1) pt8 (h1_d5 x0 h0 h1 h2 h3 h4 h5) =
 (bif (decide (h5 < h4)) then (bif (bif (decide ((0 : Int) <= h5)) then (decide (h5 < (List.length h3 : Int))) else false) then (cl (p_d4 (h0, ([((rdL (e := S_DecDec) h3 h5).1), ((rdL (e := S_DecDec) h3 h5).2)], ()))) (g_d4 (h0, ([((rdL (e := S_DecDec) h3 h5).1), ((rdL (e := S_DecDec) h3 h5).2)], ()))) fun y0 => (r_d5 g_d4 p_d4 (x0, ()) k pt8 (h1_d5 x0 (y0.1) h1 h2 h3 h4 (w64 (h5 + (1 : Int)))))) else none) else (r_d5 g_d4 p_d4 (x0, ()) k pt0 (h0_d5 x0 h0 h1 (w64 (h2 + (1 : Int)))))) := by kernel_rfl
theorem rd2_d5 (k : Nat) (x0 : Dm (.imm S_BatBatch)) (h0 : Dn I) (h1 : Dn I) (h2 : Dn I) : r_d5 g_d4 p_d4 (x0, ()) (k + 1) pt2 (h2_d5 x0 h0 h1 h2) =
 (bif (decide (h2 < h1)) then (bif (bif (decide ((0 : Int) <= h2)) then (decide (h2 < (List.length x0.2.2.2.2.2 : Int))) else false) then (cl (p_d4 (h0, ([(w64 (h2 + (1 : Int)))], ()))) (g_d4 (h0, ([(w64 (h2 + (1 : Int)))], ()))) fun y0 => (bif (rdL (e := Sh.bool) x0.2.2.2.2.2 h2) then (cl (p_d4 (y0.1, ([(77 : Int)], ()))) (g_d4 (y0.1, ([(77 : Int)], ()))) fun y1 => (r_d5 g_d4 p_d4 (x0, ()) k pt2 (h2_d5 x0 (y1.1) h1 (w64 (h2 + (1 : Int)))))) else (r_d5 g_d4 p_d4 (x0, ()) k pt2 (h2_d5 x0 (y0.1) h1 (w64 (h2 + (1 : Int))))))) else none) else (some (h0, ()))) := by kernel_rfl
theorem S_d5 (h_d4 : C_d4 p_d4 g_d4) {pre fn} (hev : Hq (E_d5 g_d4 p_d4) pre fn) : C_d5 pre fn := sound tysOk mixed (fn := Tryz.f29) rfl rfl rfl (.cons h_d4 .nil) _ hev
end
abbrev M_d6 : Lm := [.imm S_BatBatch, .imm I, .imm I]
abbrev R_d6 : Lr := [(.imm, I)]
abbrev In_d6 := Iq M_d6
abbrev Out_d6 := Oq R_d6 M_d6
abbrev C_d6 := Cq 33 M_d6 R_d6
section
variable (g_d5 : In_d5 -> Out_d5) (p_d5 : In_d5 -> Bool)
abbrev X_d6 : Ctx := ctx tys 38 (conOf [(29, ⟨M_d5, R_d5, p_d5, g_d5⟩)]) (keepOf [(pt0, (⟨[(1, .asis), (2, .asis), (7, .asis), (13, .asis), (14, .asis), (15, .asis)], [], []⟩ : Keep))]) nF
abbrev E_d6 := evFn (X_d6 g_d5 p_d5) Tryz.f33 R_d6 M_d6
def h0_d6 (x0 : Dm (.imm S_BatBatch)) (x1 : Dm (.imm I)) (x2 : Dm (.imm I)) (h0 : Dn I) (h1 : Dn I) (h2 : Dn I) : St := mkS [(1, (AV.val I x1)), (2, (AV.val I x2)), (7, (AV.val I h0)), (13, (AV.val L_BatSig x0.2.2.2.2.1)), (14, (AV.val I h1)), (15, (AV.val I h2))] []
def r_d6 := rounds (X_d6 g_d5 p_d5) Tryz.f33 R_d6 M_d6
variable {g_d5 p_d5}
theorem ev_d6 (k : Nat) (x0 : Dm (.imm S_BatBatch)) (x1 : Dm (.imm I)) (x2 : Dm (.imm I)) : E_d6 g_d5 p_d5 k (x0, x1, x2, ()) =
 (cl (p_d5 (x0, ())) (g_d5 (x0, ())) fun y0 => (r_d6 g_d5 p_d5 (x0, x1, x2, ()) k pt0 (h0_d6 x0 x1 x2 (y0.1) (List.length x0.2.2.2.2.1 : Int) (0 : Int)))) := by kernel_rfl
theorem rd0_d6 (k : Nat) (x0 : Dm (.imm S_BatBatch)) (x1 : Dm (.imm I)) (x2 : Dm (.imm I)) (h0 : Dn I) (h1 : Dn I) (h2 : Dn I) : r_d6 g_d5 p_d5 (x0, x1, x2, ()) (k + 1) pt0 (h0_d6 x0 x1 x2 h0 h1 h2) =
 (bif (decide (h2 < h1)) then (bif (bif (decide ((0 : Int) <= h2)) then (decide (h2 < (List.length x0.2.2.2.2.1 : Int))) else false) then (bif (decide ((rdL (e := S_BatSig) x0.2.2.2.2.1 h2).2.1 = x1)) then (bif (decide ((rdL (e := S_BatSig) x0.2.2.2.2.1 h2).2.2 = h0)) then (bif (bif (decide ((rdL (e := S_BatSig) x0.2.2.2.2.1 h2).1 = x2)) then false else true) then (some ((rdL (e := S_BatSig) x0.2.2.2.2.1 h2).1, ())) else (r_d6 g_d5 p_d5 (x0, x1, x2, ()) k pt0 (h0_d6 x0 x1 x2 h0 h1 (w64 (h2 + (1 : Int)))))) else (r_d6 g_d5 p_d5 (x0, x1, x2, ()) k pt0 (h0_d6 x0 x1 x2 h0 h1 (w64 (h2 + (1 : Int)))))) else (r_d6 g_d5 p_d5 (x0, x1, x2, ()) k pt0 (h0_d6 x0 x1 x2 h0 h1 (w64 (h2 + (1 : Int)))))) else none) else (some ((0 : Int), ()))) := by kernel_rfl
theorem S_d6 (h_d5 : C_d5 p_d5 g_d5) {pre fn} (hev : Hq (E_d6 g_d5 p_d5) pre fn) : C_d6 pre fn := sound tysOk mixed (fn := Tryz.f33) rfl rfl rfl (.cons h_d5 .nil) _ hev
end
abbrev M_d7 : Lm := [.imm S_BatSig, .pR I, .pR S_BatBatch]
abbrev R_d7 : Lr := [(.imm, .bool)]
abbrev In_d7 := Iq M_d7
abbrev Out_d7 := Oq R_d7 M_d7
abbrev C_d7 := Cq 147 M_d7 R_d7
section
variable (g_d6 : In_d6 -> Out_d6) (p_d6 : In_d6 -> Bool)
abbrev X_d7 : Ctx := ctx tys 21 (conOf [(33, ⟨M_d6, R_d6, p_d6, g_d6⟩)]) (keepOf []) nF
abbrev E_d7 := evFn (X_d7 g_d6 p_d6) Tryz.f147 R_d7 M_d7
variable {g_d6 p_d6}
theorem ev_d7 (k : Nat) (x0 : Dm (.imm S_BatSig)) (x1 : Dm (.pR I)) (x2 : Dm (.pR S_BatBatch)) : E_d7 g_d6 p_d6 k (x0, x1, x2, ()) =
 (bif (decide (x0.2.1 = (2 : Int))) then (bif (decide (x0.2.2 = x1)) then (cl (p_d6 (x2, ((3 : Int), (x0.1, ())))) (g_d6 (x2, ((3 : Int), (x0.1, ())))) fun y0 => (some ((decide ((0 : Int) < y0.1)), ()))) else (some (false, ()))) else (some (false, ()))) := by kernel_rfl
theorem S_d7 (h_d6 : C_d6 p_d6 g_d6) {pre fn} (hev : Hq (E_d7 g_d6 p_d6) pre fn) : C_d7 pre fn := sound tysOk mixed (fn := Tryz.f147) rfl rfl rfl (.cons h_d6 .nil) _ hev
end
abbrev M_d8 : Lm := [.imm L_BatSig, .clo 147 [I, S_BatBatch]]
abbrev R_d8 : Lr := [(.imm, I)]
abbrev In_d8 := Iq M_d8
abbrev Out_d8 := Oq R_d8 M_d8
abbrev C_d8 := Cq 158 M_d8 R_d8
section
variable (g_d7 : In_d7 -> Out_d7) (p_d7 : In_d7 -> Bool)
abbrev X_d8 : Ctx := ctx tys 19 (conOf [(147, ⟨M_d7, R_d7, p_d7, g_d7⟩)]) (keepOf [(pt1, (⟨[(0, .asis), (1, .asis), (7, .asis), (8, .asis)], [(1000005000, .asis), (1000005001, .asis)], []⟩ : Keep))]) nF
abbrev E_d8 := evFn (X_d8 g_d7 p_d7) Tryz.f158 R_d8 M_d8
def h0_d8 (x0 : Dm (.imm L_BatSig)) (x1 : Dm (.clo 147 [I, S_BatBatch])) (h0 : Dn I) (h1 : Dn I) : St := mkS [(0, (AV.val L_BatSig x0)), (1, (AV.fn 147 [1000005000, 1000005001])), (7, (AV.val I h0)), (8, (AV.val I h1))] [(1000005000, (Ob.cbox I x1.1)), (1000005001, (Ob.cbox S_BatBatch x1.2.1))]
def r_d8 := rounds (X_d8 g_d7 p_d7) Tryz.f158 R_d8 M_d8
variable {g_d7 p_d7}
theorem ev_d8 (k : Nat) (x0 : Dm (.imm L_BatSig)) (x1 : Dm (.clo 147 [I, S_BatBatch])) : E_d8 g_d7 p_d7 k (x0, x1, ()) =
 (r_d8 g_d7 p_d7 (x0, x1, ()) k pt1 (h0_d8 x0 x1 (List.length x0 : Int) (0 : Int))) := by kernel_rfl
theorem rd0_d8 (k : Nat) (x0 : Dm (.imm L_BatSig)) (x1 : Dm (.clo 147 [I, S_BatBatch])) (h0 : Dn I) (h1 : Dn I) : r_d8 g_d7 p_d7 (x0, x1, ()) (k + 1) pt1 (h0_d8 x0 x1 h0 h1) =
 (bif (decide (h1 < h0)) then (bif (bif (decide ((0 : Int) <= h1)) then (decide (h1 < (List.length x0 : Int))) else false) then (cl (p_d7 ((rdL (e := S_BatSig) x0 h1), (x1.1, (x1.2.1, ())))) (g_d7 ((rdL (e := S_BatSig) x0 h1), (x1.1, (x1.2.1, ())))) fun y0 => (bif y0.1 then (some (h1, ())) else (r_d8 g_d7 p_d7 (x0, x1, ()) k pt1 (h0_d8 x0 x1 h0 (w64 (h1 + (1 : Int))))))) else none) else (some ((-1 : Int), ()))) := by kernel_rfl
theorem S_d8 (h_d7 : C_d7 p_d7 g_d7) {pre fn} (hev : Hq (E_d8 g_d7 p_d7) pre fn) : C_d8 pre fn := sound tysOk mixed (fn := Tryz.f158) rfl rfl rfl (.cons h_d7 .nil) _ hev
end
abbrev M_d9 : Lm := [.imm L_BatSig, .clo 147 [I, S_BatBatch]]
abbrev R_d9 : Lr := [(.imm, .bool)]
abbrev In_d9 := Iq M_d9
abbrev Out_d9 := Oq R_d9 M_d9
abbrev C_d9 := Cq 91 M_d9 R_d9
section
variable (g_d8 : In_d8 -> Out_d8) (p_d8 : In_d8 -> Bool)
abbrev X_d9 : Ctx := ctx tys 9 (conOf [(158, ⟨M_d8, R_d8, p_d8, g_d8⟩)]) (keepOf []) nF
abbrev E_d9 := evFn (X_d9 g_d8 p_d8) Tryz.f91 R_d9 M_d9
variable {g_d8 p_d8}
theorem ev_d9 (k : Nat) (x0 : Dm (.imm L_BatSig)) (x1 : Dm (.clo 147 [I, S_BatBatch])) : E_d9 g_d8 p_d8 k (x0, x1, ()) =
 (cl (p_d8 (x0, ((x1.1, (x1.2.1, ())), ()))) (g_d8 (x0, ((x1.1, (x1.2.1, ())), ()))) fun y0 => (some ((decide ((0 : Int) <= y0.1)), ()))) := by kernel_rfl
theorem S_d9 (h_d8 : C_d8 p_d8 g_d8) {pre fn} (hev : Hq (E_d9 g_d8 p_d8) pre fn) : C_d9 pre fn := sound tysOk mixed (fn := Tryz.f91) rfl rfl rfl (.cons h_d8 .nil) _ hev
end
abbrev M_da : Lm := [.imm S_BatBatch]
abbrev R_da : Lr := [(.imm, .bool)]
abbrev In_da := Iq M_da
abbrev Out_da := Oq R_da M_da
abbrev C_da := Cq 79 M_da R_da
section
variable (g_d1 : In_d1 -> Out_d1) (p_d1 : In_d1 -> Bool) (g_d3 : In_d3 -> Out_d3) (p_d3 : In_d3 -> Bool) (g_d5 : In_d5 -> Out_d5) (p_d5 : In_d5 -> Bool) (g_d9 : In_d9 -> Out_d9) (p_d9 : In_d9 -> Bool)
abbrev X_da : Ctx := ctx tys 20 (conOf [(145, ⟨M_d1, R_d1, p_d1, g_d1⟩), (146, ⟨M_d3, R_d3, p_d3, g_d3⟩), (29, ⟨M_d5, R_d5, p_d5, g_d5⟩), (91, ⟨M_d9, R_d9, p_d9, g_d9⟩)]) (keepOf []) nF
abbrev E_da := evFn (X_da g_d1 p_d1 g_d3 p_d3 g_d5 p_d5 g_d9 p_d9) Tryz.f79 R_da M_da
variable {g_d1 p_d1 g_d3 p_d3 g_d5 p_d5 g_d9 p_d9}
theorem ev_da (k : Nat) (x0 : Dm (.imm S_BatBatch)) : E_da g_d1 p_d1 g_d3 p_d3 g_d5 p_d5 g_d9 p_d9 k (x0, ()) =
 (cl (p_d1 (x0.2.2.1, ((), ()))) (g_d1 (x0.2.2.1, ((), ()))) fun y0 => (bif y0.1 then (some (false, ())) else (cl (p_d3 (x0.2.2.2.2.2, (true, ()))) (g_d3 (x0.2.2.2.2.2, (true, ()))) fun y1 => (bif y1.1 then (some (false, ())) else (cl (p_d5 (x0, ())) (g_d5 (x0, ())) fun y2 => (cl (p_d9 (x0.2.2.2.2.1, ((y2.1, (x0, ())), ()))) (g_d9 (x0.2.2.2.2.1, ((y2.1, (x0, ())), ()))) fun y3 => (some (y3.1, ())))))))) := by kernel_rfl
theorem S_da (h_d1 : C_d1 p_d1 g_d1) (h_d3 : C_d3 p_d3 g_d3) (h_d5 : C_d5 p_d5 g_d5) (h_d9 : C_d9 p_d9 g_d9) {pre fn} (hev : Hq (E_da g_d1 p_d1 g_d3 p_d3 g_d5 p_d5 g_d9 p_d9) pre fn) : C_da pre fn := sound tysOk mixed (fn := Tryz.f79) rfl rfl rfl (.cons h_d1 (.cons h_d3 (.cons h_d5 (.cons h_d9 .nil)))) _ hev
end
abbrev M_db : Lm := [.imm S_BatBatch]
abbrev R_db : Lr := [(.imm, .bool)]
abbrev In_db := Iq M_db
abbrev Out_db := Oq R_db M_db
abbrev C_db := Cq 34 M_db R_db
section
variable (g_iin : In_iin -> Out_iin) (g_cs : In_cs -> Out_cs) (p_cs : In_cs -> Bool) (g_cy : In_cy -> Out_cy) (p_cy : In_cy -> Bool) (g_da : In_da -> Out_da) (p_da : In_da -> Bool)
abbrev X_db : Ctx := ctx tys 87 (conOf [(65, ⟨M_iin, R_iin, fun _ => true, g_iin⟩), (88, ⟨M_cs, R_cs, p_cs, g_cs⟩), (91, ⟨M_cy, R_cy, p_cy, g_cy⟩), (79, ⟨M_da, R_da, p_da, g_da⟩)]) (keepOf [(pt0, (⟨[(1, .asis), (30, .asis), (31, .asis), (32, .asis)], [(1, .asis)], []⟩ : Keep))]) nF
abbrev E_db := evFn (X_db g_iin g_cs p_cs g_cy p_cy g_da p_da) Tryz.f34 R_db M_db
def h0_db (x0 : Dm (.imm S_BatBatch)) (h0 : Dn I) (h1 : Dn I) : St := mkS [(1, (AV.ptr 1 none [])), (30, (AV.val L_TstTest x0.2.2.1)), (31, (AV.val I h0)), (32, (AV.val I h1))] [(1, (Ob.box S_BatBatch (AV.val S_BatBatch x0)))]
def r_db := rounds (X_db g_iin g_cs p_cs g_cy p_cy g_da p_da) Tryz.f34 R_db M_db
variable {g_iin g_cs p_cs g_cy p_cy g_da p_da}
theorem ev_db (k : Nat) (x0 : Dm (.imm S_BatBatch)) : E_db g_iin g_cs p_cs g_cy p_cy g_da p_da k (x0, ()) =
 (bif (bif (g_iin (x0.1, ((0 : Int), ((5 : Int), ())))).1 then false else true) then (some (false, ())) else (bif (bif (g_iin (x0.2.1, ((1 : Int), ((10000 : Int), ())))).1 then false else true) then (some (false, ())) else (bif (bif (g_iin ((List.length x0.2.2.1 : Int), ((1 : Int), ((4 : Int), ())))).1 then false else true) then (some (false, ())) else (bif (bif (g_iin (x0.2.2.2.1, ((1 : Int), ((4 : Int), ())))).1 then false else true) then (some (false, ())) else (r_db g_iin g_cs p_cs g_cy p_cy g_da p_da (x0, ()) k pt0 (h0_db x0 (List.length x0.2.2.1 : Int) (0 : Int))))))) := by kernel_rfl
theorem rd0_db (k : Nat) (x0 : Dm (.imm S_BatBatch)) (h0 : Dn I) (h1 : Dn I) : r_db g_iin g_cs p_cs g_cy p_cy g_da p_da (x0, ()) (k + 1) pt0 (h0_db x0 h0 h1) =
 (lt (rdL (e := S_TstTest) x0.2.2.1 h1) fun s1 => (lt (w64 (h1 - (1 : Int))) fun s0 => (bif (decide (h1 < h0)) then (bif (bif (decide ((0 : Int) <= h1)) then (decide (h1 < (List.length x0.2.2.1 : Int))) else false) then (cl (p_cs (s1, ())) (g_cs (s1, ())) fun y0 => (bif (bif y0.1 then false else true) then (some (false, ())) else (bif (decide ((0 : Int) < h1)) then (bif (bif (decide ((0 : Int) <= s0)) then (decide (s0 < (List.length x0.2.2.1 : Int))) else false) then (bif (decide (s1.1.1 <= (rdL (e := S_TstTest) x0.2.2.1 s0).1.1)) then (some (false, ())) else (r_db g_iin g_cs p_cs g_cy p_cy g_da p_da (x0, ()) k pt0 (h0_db x0 h0 (w64 (h1 + (1 : Int)))))) else none) else (r_db g_iin g_cs p_cs g_cy p_cy g_da p_da (x0, ()) k pt0 (h0_db x0 h0 (w64 (h1 + (1 : Int)))))))) else none) else (bif (decide ((6 : Int) < (List.length x0.2.2.2.2.1 : Int))) then (some (false, ())) else (cl (p_cy (x0.2.2.2.2.1, ((), ()))) (g_cy (x0.2.2.2.2.1, ((), ()))) fun y1 => (bif y1.1 then (some (false, ())) else (bif (decide ((3 : Int) < (List.length x0.2.2.2.2.2 : Int))) then (some (false, ())) else (bif (bif (decide (x0.2.2.2.1 = (2 : Int))) then false else true) then (bif (bif (decide (x0.2.2.2.1 = (4 : Int))) then false else true) then (some (true, ())) else (cl (p_da (x0, ())) (g_da (x0, ())) fun y2 => (some (y2.1, ())))) else (cl (p_da (x0, ())) (g_da (x0, ())) fun y3 => (some (y3.1, ()))))))))))) := by kernel_rfl
theorem S_db (h_iin : C_iin (fun _ => true) g_iin) (h_cs : C_cs p_cs g_cs) (h_cy : C_cy p_cy g_cy) (h_da : C_da p_da g_da) {pre fn} (hev : Hq (E_db g_iin g_cs p_cs g_cy p_cy g_da p_da) pre fn) : C_db pre fn := sound tysOk mixed (fn := Tryz.f34) rfl rfl rfl (.cons h_iin (.cons h_cs (.cons h_cy (.cons h_da .nil)))) _ hev
end
abbrev M_dc : Lm := [.imm S_TstTest, .pR I]
abbrev R_dc : Lr := [(.imm, .bool)]
abbrev In_dc := Iq M_dc
abbrev Out_dc := Oq R_dc M_dc
abbrev C_dc := Cq 97 M_dc R_dc
abbrev X_dc : Ctx := ctx tys 9 (conOf []) (keepOf []) nF
abbrev E_dc := evFn X_dc Tryz.f97 R_dc M_dc
theorem ev_dc (k : Nat) (x0 : Dm (.imm S_TstTest)) (x1 : Dm (.pR I)) : E_dc k (x0, x1, ()) =
 (some ((decide (x0.1.1 = x1)), ())) := by kernel_rfl
theorem S_dc  {pre fn} (hev : Hq E_dc pre fn) : C_dc pre fn := sound tysOk mixed (fn := Tryz.f97) rfl rfl rfl ConsOk.nil _ hev
abbrev M_dd : Lm := [.imm L_TstTest, .clo 97 [I]]
abbrev R_dd : Lr := [(.imm, I)]
abbrev In_dd := Iq M_dd
abbrev Out_dd := Oq R_dd M_dd
abbrev C_dd := Cq 96 M_dd R_dd
section
variable (g_dc : In_dc -> Out_dc) (p_dc : In_dc -> Bool)
abbrev X_dd : Ctx := ctx tys 19 (conOf [(97, ⟨M_dc, R_dc, p_dc, g_dc⟩)]) (keepOf [(pt1, (⟨[(0, .asis), (1, .asis), (7, .asis), (8, .asis)], [(1000005000, .asis)], []⟩ : Keep))]) nF
abbrev E_dd := evFn (X_dd g_dc p_dc) Tryz.f96 R_dd M_dd
def h0_dd (x0 : Dm (.imm L_TstTest)) (x1 : Dm (.clo 97 [I])) (h0 : Dn I) (h1 : Dn I) : St := mkS [(0, (AV.val L_TstTest x0)), (1, (AV.fn 97 [1000005000])), (7, (AV.val I h0)), (8, (AV.val I h1))] [(1000005000, (Ob.cbox I x1.1))]
def r_dd := rounds (X_dd g_dc p_dc) Tryz.f96 R_dd M_dd
variable {g_dc p_dc}
theorem ev_dd (k : Nat) (x0 : Dm (.imm L_TstTest)) (x1 : Dm (.clo 97 [I])) : E_dd g_dc p_dc k (x0, x1, ()) =
 (r_dd g_dc p_dc (x0, x1, ()) k pt1 (h0_dd x0 x1 (List.length x0 : Int) (0 : Int))) := by kernel_rfl
theorem rd0_dd (k : Nat) (x0 : Dm (.imm L_TstTest)) (x1 : Dm (.clo 97 [I])) (h0 : Dn I) (h1 : Dn I) : r_dd g_dc p_dc (x0, x1, ()) (k + 1) pt1 (h0_dd x0 x1 h0 h1) =
 (bif (decide (h1 < h0)) then (bif (bif (decide ((0 : Int) <= h1)) then (decide (h1 < (List.length x0 : Int))) else false) then (cl (p_dc ((rdL (e := S_TstTest) x0 h1), (x1.1, ()))) (g_dc ((rdL (e := S_TstTest) x0 h1), (x1.1, ()))) fun y0 => (bif y0.1 then (some (h1, ())) else (r_dd g_dc p_dc (x0, x1, ()) k pt1 (h0_dd x0 x1 h0 (w64 (h1 + (1 : Int))))))) else none) else (some ((-1 : Int), ()))) := by kernel_rfl
theorem S_dd (h_dc : C_dc p_dc g_dc) {pre fn} (hev : Hq (E_dd g_dc p_dc) pre fn) : C_dd pre fn := sound tysOk mixed (fn := Tryz.f96) rfl rfl rfl (.cons h_dc .nil) _ hev
end
abbrev M_de : Lm := [.pO S_TstTest, .pR S_DecDec]
abbrev R_de : Lr := []
abbrev In_de := Iq M_de
abbrev Out_de := Oq R_de M_de
abbrev C_de := Cq 101 M_de R_de
abbrev X_de : Ctx := ctx tys 7 (conOf []) (keepOf []) nF
abbrev E_de := evFn X_de Tryz.f101 R_de M_de
theorem ev_de (k : Nat) (x0 : Dm (.pO S_TstTest)) (x1 : Dm (.pR S_DecDec)) : E_de k (x0, x1, ()) =
 (some ((x0.1, (x0.2.1, (x1, x0.2.2.2))), ())) := by kernel_rfl
theorem S_de  {pre fn} (hev : Hq E_de pre fn) : C_de pre fn := sound tysOk mixed (fn := Tryz.f101) rfl rfl rfl ConsOk.nil _ hev
abbrev M_df : Lm := [.imm S_TstTest, .imm I, .imm .bool, .clo 101 [S_DecDec]]
abbrev R_df : Lr := [(.own, S_TstTest), (.imm, .bool)]
abbrev In_df := Iq M_df
abbrev Out_df := Oq R_df M_df
abbrev C_df := Cq 100 M_df R_df
section
variable (g_c3 : In_c3 -> Out_c3) (p_c3 : In_c3 -> Bool) (g_cs : In_cs -> Out_cs) (p_cs : In_cs -> Bool) (g_de : In_de -> Out_de) (p_de : In_de -> Bool) (g_cr : In_cr -> Out_cr) (p_cr : In_cr -> Bool)
abbrev X_df : Ctx := ctx tys 33 (conOf [(163, ⟨M_c3, R_c3, p_c3, g_c3⟩), (88, ⟨M_cs, R_cs, p_cs, g_cs⟩), (101, ⟨M_de, R_de, p_de, g_de⟩), (156, ⟨M_cr, R_cr, p_cr, g_cr⟩)]) (keepOf []) nF
abbrev E_df := evFn (X_df g_c3 p_c3 g_cs p_cs g_de p_de g_cr p_cr) Tryz.f100 R_df M_df
variable {g_c3 p_c3 g_cs p_cs g_de p_de g_cr p_cr}
theorem ev_df (k : Nat) (x0 : Dm (.imm S_TstTest)) (x1 : Dm (.imm I)) (x2 : Dm (.imm .bool)) (x3 : Dm (.clo 101 [S_DecDec])) : E_df g_c3 p_c3 g_cs p_cs g_de p_de g_cr p_cr k (x0, x1, x2, x3, ()) =
 (cl (p_c3 (x0, ())) (g_c3 (x0, ())) fun y0 => (cl (p_cs (x0, ())) (g_cs (x0, ())) fun y1 => (bif (bif y1.1 then false else true) then (some (y0.1, (false, ()))) else (bif (bif (decide (x0.2.1 = x1)) then false else true) then (some (y0.1, (false, ()))) else (bif (bif x2 then false else true) then (some (y0.1, (false, ()))) else (cl (p_de (y0.1, (x3.1, ()))) (g_de (y0.1, (x3.1, ()))) fun y2 => (cl (p_cr (y2.1, ())) (g_cr (y2.1, ())) fun y3 => (some ((y2.1.1, (y3.1, y2.1.2.2)), (true, ())))))))))) := by kernel_rfl
theorem S_df (h_c3 : C_c3 p_c3 g_c3) (h_cs : C_cs p_cs g_cs) (h_de : C_de p_de g_de) (h_cr : C_cr p_cr g_cr) {pre fn} (hev : Hq (E_df g_c3 p_c3 g_cs p_cs g_de p_de g_cr p_cr) pre fn) : C_df pre fn := sound tysOk mixed (fn := Tryz.f100) rfl rfl rfl (.cons h_c3 (.cons h_cs (.cons h_de (.cons h_cr .nil)))) _ hev
end
abbrev M_dg : Lm := [.imm S_TstTest, .imm S_DecDec]
abbrev R_dg : Lr := [(.own, S_TstTest), (.imm, .bool)]
abbrev In_dg := Iq M_dg
abbrev Out_dg := Oq R_dg M_dg
abbrev C_dg := Cq 42 M_dg R_dg
section
variable (g_c9 : In_c9 -> Out_c9) (g_df : In_df -> Out_df) (p_df : In_df -> Bool)
abbrev X_dg : Ctx := ctx tys 13 (conOf [(75, ⟨M_c9, R_c9, fun _ => true, g_c9⟩), (100, ⟨M_df, R_df, p_df, g_df⟩)]) (keepOf []) nF
abbrev E_dg := evFn (X_dg g_c9 g_df p_df) Tryz.f42 R_dg M_dg
variable {g_c9 g_df p_df}
theorem ev_dg (k : Nat) (x0 : Dm (.imm S_TstTest)) (x1 : Dm (.imm S_DecDec)) : E_dg g_c9 g_df p_df k (x0, x1, ()) =
 (cl (p_df (x0, ((0 : Int), ((g_c9 (x1, ())).1, ((x1, ()), ()))))) (g_df (x0, ((0 : Int), ((g_c9 (x1, ())).1, ((x1, ()), ()))))) fun y0 => (some (y0.1, (y0.2.1, ())))) := by kernel_rfl
theorem S_dg (h_c9 : C_c9 (fun _ => true) g_c9) (h_df : C_df p_df g_df) {pre fn} (hev : Hq (E_dg g_c9 g_df p_df) pre fn) : C_dg pre fn := sound tysOk mixed (fn := Tryz.f42) rfl rfl rfl (.cons h_c9 (.cons h_df .nil)) _ hev
end
abbrev M_dh : Lm := [.pO S_TstTest, .pR I]
abbrev R_dh : Lr := []
abbrev In_dh := Iq M_dh
abbrev Out_dh := Oq R_dh M_dh
abbrev C_dh := Cq 102 M_dh R_dh
abbrev X_dh : Ctx := ctx tys 7 (conOf []) (keepOf []) nF
abbrev E_dh := evFn X_dh Tryz.f102 R_dh M_dh
theorem ev_dh (k : Nat) (x0 : Dm (.pO S_TstTest)) (x1 : Dm (.pR I)) : E_dh k (x0, x1, ()) =
 (some ((x0.1, (x0.2.1, (x0.2.2.1, (x1, x0.2.2.2.2)))), ())) := by kernel_rfl
theorem S_dh  {pre fn} (hev : Hq E_dh pre fn) : C_dh pre fn := sound tysOk mixed (fn := Tryz.f102) rfl rfl rfl ConsOk.nil _ hev
abbrev M_di : Lm := [.imm S_TstTest, .imm I, .imm .bool, .clo 102 [I]]
abbrev R_di : Lr := [(.own, S_TstTest), (.imm, .bool)]
abbrev In_di := Iq M_di
abbrev Out_di := Oq R_di M_di
abbrev C_di := Cq 100 M_di R_di
section
variable (g_c3 : In_c3 -> Out_c3) (p_c3 : In_c3 -> Bool) (g_cs : In_cs -> Out_cs) (p_cs : In_cs -> Bool) (g_dh : In_dh -> Out_dh) (p_dh : In_dh -> Bool) (g_cr : In_cr -> Out_cr) (p_cr : In_cr -> Bool)
abbrev X_di : Ctx := ctx tys 33 (conOf [(163, ⟨M_c3, R_c3, p_c3, g_c3⟩), (88, ⟨M_cs, R_cs, p_cs, g_cs⟩), (102, ⟨M_dh, R_dh, p_dh, g_dh⟩), (156, ⟨M_cr, R_cr, p_cr, g_cr⟩)]) (keepOf []) nF
abbrev E_di := evFn (X_di g_c3 p_c3 g_cs p_cs g_dh p_dh g_cr p_cr) Tryz.f100 R_di M_di
variable {g_c3 p_c3 g_cs p_cs g_dh p_dh g_cr p_cr}
theorem ev_di (k : Nat) (x0 : Dm (.imm S_TstTest)) (x1 : Dm (.imm I)) (x2 : Dm (.imm .bool)) (x3 : Dm (.clo 102 [I])) : E_di g_c3 p_c3 g_cs p_cs g_dh p_dh g_cr p_cr k (x0, x1, x2, x3, ()) =
 (cl (p_c3 (x0, ())) (g_c3 (x0, ())) fun y0 => (cl (p_cs (x0, ())) (g_cs (x0, ())) fun y1 => (bif (bif y1.1 then false else true) then (some (y0.1, (false, ()))) else (bif (bif (decide (x0.2.1 = x1)) then false else true) then (some (y0.1, (false, ()))) else (bif (bif x2 then false else true) then (some (y0.1, (false, ()))) else (cl (p_dh (y0.1, (x3.1, ()))) (g_dh (y0.1, (x3.1, ()))) fun y2 => (cl (p_cr (y2.1, ())) (g_cr (y2.1, ())) fun y3 => (some ((y2.1.1, (y3.1, y2.1.2.2)), (true, ())))))))))) := by kernel_rfl
theorem S_di (h_c3 : C_c3 p_c3 g_c3) (h_cs : C_cs p_cs g_cs) (h_dh : C_dh p_dh g_dh) (h_cr : C_cr p_cr g_cr) {pre fn} (hev : Hq (E_di g_c3 p_c3 g_cs p_cs g_dh p_dh g_cr p_cr) pre fn) : C_di pre fn := sound tysOk mixed (fn := Tryz.f100) rfl rfl rfl (.cons h_c3 (.cons h_cs (.cons h_dh (.cons h_cr .nil)))) _ hev
end
abbrev M_dj : Lm := [.imm S_TstTest, .imm I]
abbrev R_dj : Lr := [(.own, S_TstTest), (.imm, .bool)]
abbrev In_dj := Iq M_dj
abbrev Out_dj := Oq R_dj M_dj
abbrev C_dj := Cq 43 M_dj R_dj
section
variable (g_iin : In_iin -> Out_iin) (g_di : In_di -> Out_di) (p_di : In_di -> Bool)
abbrev X_dj : Ctx := ctx tys 13 (conOf [(65, ⟨M_iin, R_iin, fun _ => true, g_iin⟩), (100, ⟨M_di, R_di, p_di, g_di⟩)]) (keepOf []) nF
abbrev E_dj := evFn (X_dj g_iin g_di p_di) Tryz.f43 R_dj M_dj
variable {g_iin g_di p_di}
theorem ev_dj (k : Nat) (x0 : Dm (.imm S_TstTest)) (x1 : Dm (.imm I)) : E_dj g_iin g_di p_di k (x0, x1, ()) =
 (cl (p_di (x0, ((1 : Int), ((g_iin (x1, ((1 : Int), ((3 : Int), ())))).1, ((x1, ()), ()))))) (g_di (x0, ((1 : Int), ((g_iin (x1, ((1 : Int), ((3 : Int), ())))).1, ((x1, ()), ()))))) fun y0 => (some (y0.1, (y0.2.1, ())))) := by kernel_rfl
theorem S_dj (h_iin : C_iin (fun _ => true) g_iin) (h_di : C_di p_di g_di) {pre fn} (hev : Hq (E_dj g_iin g_di p_di) pre fn) : C_dj pre fn := sound tysOk mixed (fn := Tryz.f43) rfl rfl rfl (.cons h_iin (.cons h_di .nil)) _ hev
end
abbrev M_dk : Lm := [.pO S_TstTest, .pR S_DecDec]
abbrev R_dk : Lr := []
abbrev In_dk := Iq M_dk
abbrev Out_dk := Oq R_dk M_dk
abbrev C_dk := Cq 103 M_dk R_dk
abbrev X_dk : Ctx := ctx tys 13 (conOf []) (keepOf []) nF
abbrev E_dk := evFn X_dk Tryz.f103 R_dk M_dk
theorem ev_dk (k : Nat) (x0 : Dm (.pO S_TstTest)) (x1 : Dm (.pR S_DecDec)) : E_dk k (x0, x1, ()) =
 (bif (fitL x0.2.2.2.2 [x1]) then (some ((x0.1, (x0.2.1, (x0.2.2.1, (x0.2.2.2.1, (List.append x0.2.2.2.2 [x1]))))), ())) else none) := by kernel_rfl
theorem S_dk  {pre fn} (hev : Hq E_dk pre fn) : C_dk pre fn := sound tysOk mixed (fn := Tryz.f103) rfl rfl rfl ConsOk.nil _ hev
abbrev M_dl : Lm := [.imm S_TstTest, .imm I, .imm .bool, .clo 103 [S_DecDec]]
abbrev R_dl : Lr := [(.own, S_TstTest), (.imm, .bool)]
abbrev In_dl := Iq M_dl
abbrev Out_dl := Oq R_dl M_dl
abbrev C_dl := Cq 100 M_dl R_dl
section
variable (g_c3 : In_c3 -> Out_c3) (p_c3 : In_c3 -> Bool) (g_cs : In_cs -> Out_cs) (p_cs : In_cs -> Bool) (g_dk : In_dk -> Out_dk) (p_dk : In_dk -> Bool) (g_cr : In_cr -> Out_cr) (p_cr : In_cr -> Bool)
abbrev X_dl : Ctx := ctx tys 33 (conOf [(163, ⟨M_c3, R_c3, p_c3, g_c3⟩), (88, ⟨M_cs, R_cs, p_cs, g_cs⟩), (103, ⟨M_dk, R_dk, p_dk, g_dk⟩), (156, ⟨M_cr, R_cr, p_cr, g_cr⟩)]) (keepOf []) nF
abbrev E_dl := evFn (X_dl g_c3 p_c3 g_cs p_cs g_dk p_dk g_cr p_cr) Tryz.f100 R_dl M_dl
variable {g_c3 p_c3 g_cs p_cs g_dk p_dk g_cr p_cr}
theorem ev_dl (k : Nat) (x0 : Dm (.imm S_TstTest)) (x1 : Dm (.imm I)) (x2 : Dm (.imm .bool)) (x3 : Dm (.clo 103 [S_DecDec])) : E_dl g_c3 p_c3 g_cs p_cs g_dk p_dk g_cr p_cr k (x0, x1, x2, x3, ()) =
 (cl (p_c3 (x0, ())) (g_c3 (x0, ())) fun y0 => (cl (p_cs (x0, ())) (g_cs (x0, ())) fun y1 => (bif (bif y1.1 then false else true) then (some (y0.1, (false, ()))) else (bif (bif (decide (x0.2.1 = x1)) then false else true) then (some (y0.1, (false, ()))) else (bif (bif x2 then false else true) then (some (y0.1, (false, ()))) else (cl (p_dk (y0.1, (x3.1, ()))) (g_dk (y0.1, (x3.1, ()))) fun y2 => (cl (p_cr (y2.1, ())) (g_cr (y2.1, ())) fun y3 => (some ((y2.1.1, (y3.1, y2.1.2.2)), (true, ())))))))))) := by kernel_rfl
theorem S_dl (h_c3 : C_c3 p_c3 g_c3) (h_cs : C_cs p_cs g_cs) (h_dk : C_dk p_dk g_dk) (h_cr : C_cr p_cr g_cr) {pre fn} (hev : Hq (E_dl g_c3 p_c3 g_cs p_cs g_dk p_dk g_cr p_cr) pre fn) : C_dl pre fn := sound tysOk mixed (fn := Tryz.f100) rfl rfl rfl (.cons h_c3 (.cons h_cs (.cons h_dk (.cons h_cr .nil)))) _ hev
end
abbrev M_dm : Lm := [.imm S_TstTest, .imm S_DecDec]
abbrev R_dm : Lr := [(.own, S_TstTest), (.imm, .bool)]
abbrev In_dm := Iq M_dm
abbrev Out_dm := Oq R_dm M_dm
abbrev C_dm := Cq 44 M_dm R_dm
section
variable (g_c9 : In_c9 -> Out_c9) (g_dl : In_dl -> Out_dl) (p_dl : In_dl -> Bool)
abbrev X_dm : Ctx := ctx tys 13 (conOf [(75, ⟨M_c9, R_c9, fun _ => true, g_c9⟩), (100, ⟨M_dl, R_dl, p_dl, g_dl⟩)]) (keepOf []) nF
abbrev E_dm := evFn (X_dm g_c9 g_dl p_dl) Tryz.f44 R_dm M_dm
variable {g_c9 g_dl p_dl}
theorem ev_dm (k : Nat) (x0 : Dm (.imm S_TstTest)) (x1 : Dm (.imm S_DecDec)) : E_dm g_c9 g_dl p_dl k (x0, x1, ()) =
 (cl (p_dl (x0, ((2 : Int), ((g_c9 (x1, ())).1, ((x1, ()), ()))))) (g_dl (x0, ((2 : Int), ((g_c9 (x1, ())).1, ((x1, ()), ()))))) fun y0 => (some (y0.1, (y0.2.1, ())))) := by kernel_rfl
theorem S_dm (h_c9 : C_c9 (fun _ => true) g_c9) (h_dl : C_dl p_dl g_dl) {pre fn} (hev : Hq (E_dm g_c9 g_dl p_dl) pre fn) : C_dm pre fn := sound tysOk mixed (fn := Tryz.f44) rfl rfl rfl (.cons h_c9 (.cons h_dl .nil)) _ hev
end
abbrev M_dn : Lm := [.pO S_BatBatch, .pR I, .pR I, .pR S_DecDec, .pR I]
abbrev R_dn : Lr := [(.imm, .bool)]
abbrev In_dn := Iq M_dn
abbrev Out_dn := Oq R_dn M_dn
abbrev C_dn := Cq 95 M_dn R_dn
section
variable (g_dd : In_dd -> Out_dd) (p_dd : In_dd -> Bool) (g_dg : In_dg -> Out_dg) (p_dg : In_dg -> Bool) (g_dj : In_dj -> Out_dj) (p_dj : In_dj -> Bool) (g_dm : In_dm -> Out_dm) (p_dm : In_dm -> Bool)
abbrev X_dn : Ctx := ctx tys 62 (conOf [(96, ⟨M_dd, R_dd, p_dd, g_dd⟩), (42, ⟨M_dg, R_dg, p_dg, g_dg⟩), (43, ⟨M_dj, R_dj, p_dj, g_dj⟩), (44, ⟨M_dm, R_dm, p_dm, g_dm⟩)]) (keepOf []) nF
abbrev E_dn := evFn (X_dn g_dd p_dd g_dg p_dg g_dj p_dj g_dm p_dm) Tryz.f95 R_dn M_dn
variable {g_dd p_dd g_dg p_dg g_dj p_dj g_dm p_dm}
theorem ev_dn (k : Nat) (x0 : Dm (.pO S_BatBatch)) (x1 : Dm (.pR I)) (x2 : Dm (.pR I)) (x3 : Dm (.pR S_DecDec)) (x4 : Dm (.pR I)) : E_dn g_dd p_dd g_dg p_dg g_dj p_dj g_dm p_dm k (x0, x1, x2, x3, x4, ()) =
 (cl (p_dd (x0.2.2.1, ((x1, ()), ()))) (g_dd (x0.2.2.1, ((x1, ()), ()))) fun y0 => (lt (rdL (e := S_TstTest) x0.2.2.1 y0.1) fun s0 => (bif (decide (y0.1 < (0 : Int))) then (some (false, (x0, ()))) else (bif (bif (decide ((0 : Int) <= y0.1)) then (decide (y0.1 < (List.length x0.2.2.1 : Int))) else false) then (bif (decide (x2 = (1 : Int))) then (cl (p_dg (s0, (x3, ()))) (g_dg (s0, (x3, ()))) fun y1 => (some (y1.2.1, ((x0.1, (x0.2.1, ((List.set x0.2.2.1 (Int.toNat y0.1) y1.1), x0.2.2.2))), ())))) else (bif (decide (x2 = (2 : Int))) then (cl (p_dj (s0, (x4, ()))) (g_dj (s0, (x4, ()))) fun y2 => (some (y2.2.1, ((x0.1, (x0.2.1, ((List.set x0.2.2.1 (Int.toNat y0.1) y2.1), x0.2.2.2))), ())))) else (bif (decide (x2 = (3 : Int))) then (cl (p_dm (s0, (x3, ()))) (g_dm (s0, (x3, ()))) fun y3 => (some (y3.2.1, ((x0.1, (x0.2.1, ((List.set x0.2.2.1 (Int.toNat y0.1) y3.1), x0.2.2.2))), ())))) else (some (false, (x0, ())))))) else none)))) := by kernel_rfl
theorem S_dn (h_dd : C_dd p_dd g_dd) (h_dg : C_dg p_dg g_dg) (h_dj : C_dj p_dj g_dj) (h_dm : C_dm p_dm g_dm) {pre fn} (hev : Hq (E_dn g_dd p_dd g_dg p_dg g_dj p_dj g_dm p_dm) pre fn) : C_dn pre fn := sound tysOk mixed (fn := Tryz.f95) rfl rfl rfl (.cons h_dd (.cons h_dg (.cons h_dj (.cons h_dm .nil)))) _ hev
end
abbrev M_do : Lm := [.imm S_BatBatch, .clo 95 [I, I, S_DecDec, I]]
abbrev R_do : Lr := [(.own, S_BatBatch), (.imm, .bool)]
abbrev In_do := Iq M_do
abbrev Out_do := Oq R_do M_do
abbrev C_do := Cq 83 M_do R_do
section
variable (g_c6 : In_c6 -> Out_c6) (p_c6 : In_c6 -> Bool) (g_db : In_db -> Out_db) (p_db : In_db -> Bool) (g_dn : In_dn -> Out_dn) (p_dn : In_dn -> Bool)
abbrev X_do : Ctx := ctx tys 23 (conOf [(104, ⟨M_c6, R_c6, p_c6, g_c6⟩), (34, ⟨M_db, R_db, p_db, g_db⟩), (95, ⟨M_dn, R_dn, p_dn, g_dn⟩)]) (keepOf []) nF
abbrev E_do := evFn (X_do g_c6 p_c6 g_db p_db g_dn p_dn) Tryz.f83 R_do M_do
variable {g_c6 p_c6 g_db p_db g_dn p_dn}
theorem ev_do (k : Nat) (x0 : Dm (.imm S_BatBatch)) (x1 : Dm (.clo 95 [I, I, S_DecDec, I])) : E_do g_c6 p_c6 g_db p_db g_dn p_dn k (x0, x1, ()) =
 (cl (p_c6 (x0, ())) (g_c6 (x0, ())) fun y0 => (cl (p_db (x0, ())) (g_db (x0, ())) fun y1 => (bif (bif y1.1 then false else true) then (some (y0.1, (false, ()))) else (bif (bif (decide (x0.2.2.2.1 = (1 : Int))) then false else true) then (some (y0.1, (false, ()))) else (cl (p_dn (y0.1, (x1.1, (x1.2.1, (x1.2.2.1, (x1.2.2.2.1, ())))))) (g_dn (y0.1, (x1.1, (x1.2.1, (x1.2.2.1, (x1.2.2.2.1, ())))))) fun y2 => (some (y2.2.1, (y2.1, ())))))))) := by kernel_rfl
theorem S_do (h_c6 : C_c6 p_c6 g_c6) (h_db : C_db p_db g_db) (h_dn : C_dn p_dn g_dn) {pre fn} (hev : Hq (E_do g_c6 p_c6 g_db p_db g_dn p_dn) pre fn) : C_do pre fn := sound tysOk mixed (fn := Tryz.f83) rfl rfl rfl (.cons h_c6 (.cons h_db (.cons h_dn .nil))) _ hev
end
abbrev M_dp : Lm := [.imm S_BatBatch, .imm I, .imm I, .imm S_DecDec, .imm I]
abbrev R_dp : Lr := [(.own, S_BatBatch), (.imm, .bool)]
abbrev In_dp := Iq M_dp
abbrev Out_dp := Oq R_dp M_dp
abbrev C_dp := Cq 39 M_dp R_dp
section
variable (g_do : In_do -> Out_do) (p_do : In_do -> Bool)
abbrev X_dp : Ctx := ctx tys 17 (conOf [(83, ⟨M_do, R_do, p_do, g_do⟩)]) (keepOf []) nF
abbrev E_dp := evFn (X_dp g_do p_do) Tryz.f39 R_dp M_dp
variable {g_do p_do}
theorem ev_dp (k : Nat) (x0 : Dm (.imm S_BatBatch)) (x1 : Dm (.imm I)) (x2 : Dm (.imm I)) (x3 : Dm (.imm S_DecDec)) (x4 : Dm (.imm I)) : E_dp g_do p_do k (x0, x1, x2, x3, x4, ()) =
 (cl (p_do (x0, ((x1, (x2, (x3, (x4, ())))), ()))) (g_do (x0, ((x1, (x2, (x3, (x4, ())))), ()))) fun y0 => (some (y0.1, (y0.2.1, ())))) := by kernel_rfl
theorem S_dp (h_do : C_do p_do g_do) {pre fn} (hev : Hq (E_dp g_do p_do) pre fn) : C_dp pre fn := sound tysOk mixed (fn := Tryz.f39) rfl rfl rfl (.cons h_do .nil) _ hev
end
abbrev M_dq : Lm := [.imm L_DecDec, .imm L_DecDec]
abbrev R_dq : Lr := [(.imm, .bool)]
abbrev In_dq := Iq M_dq
abbrev Out_dq := Oq R_dq M_dq
abbrev C_dq := Cq 99 M_dq R_dq
abbrev X_dq : Ctx := ctx tys 26 (conOf []) (keepOf [(pt0, (⟨[(0, .asis), (1, .asis), (5, .asis)], [], []⟩ : Keep))]) nF
abbrev E_dq := evFn X_dq Tryz.f99 R_dq M_dq
def h0_dq (x0 : Dm (.imm L_DecDec)) (x1 : Dm (.imm L_DecDec)) (h0 : Dn I) : St := mkS [(0, (AV.val L_DecDec x0)), (1, (AV.val L_DecDec x1)), (5, (AV.val I h0))] []
def r_dq := rounds X_dq Tryz.f99 R_dq M_dq
theorem ev_dq (k : Nat) (x0 : Dm (.imm L_DecDec)) (x1 : Dm (.imm L_DecDec)) : E_dq k (x0, x1, ()) =
 (bif (bif (decide ((List.length x0 : Int) = (List.length x1 : Int))) then false else true) then (some (false, ())) else (r_dq  (x0, x1, ()) k pt0 (h0_dq x0 x1 (0 : Int)))) := by kernel_rfl
theorem rd0_dq (k : Nat) (x0 : Dm (.imm L_DecDec)) (x1 : Dm (.imm L_DecDec)) (h0 : Dn I) : r_dq  (x0, x1, ()) (k + 1) pt0 (h0_dq x0 x1 h0) =
 (bif (decide (h0 < (List.length x0 : Int))) then (bif (bif (decide ((0 : Int) <= h0)) then (decide (h0 < (List.length x0 : Int))) else false) then (bif (bif (decide ((0 : Int) <= h0)) then (decide (h0 < (List.length x1 : Int))) else false) then (bif (bif (Sh.beq S_DecDec (rdL (e := S_DecDec) x0 h0) (rdL (e := S_DecDec) x1 h0)) then false else true) then (some (false, ())) else (r_dq  (x0, x1, ()) k pt0 (h0_dq x0 x1 (w64 (h0 + (1 : Int)))))) else none) else none) else (some (true, ()))) := by kernel_rfl
theorem S_dq  {pre fn} (hev : Hq E_dq pre fn) : C_dq pre fn := sound tysOk mixed (fn := Tryz.f99) rfl rfl rfl ConsOk.nil _ hev
abbrev M_dr : Lm := [.imm S_TstTest, .imm S_TstTest]
abbrev R_dr : Lr := [(.imm, .bool)]
abbrev In_dr := Iq M_dr
abbrev Out_dr := Oq R_dr M_dr
abbrev C_dr := Cq 41 M_dr R_dr
section
variable (g_dq : In_dq -> Out_dq) (p_dq : In_dq -> Bool)
abbrev X_dr : Ctx := ctx tys 38 (conOf [(99, ⟨M_dq, R_dq, p_dq, g_dq⟩)]) (keepOf []) nF
abbrev E_dr := evFn (X_dr g_dq p_dq) Tryz.f41 R_dr M_dr
variable {g_dq p_dq}
theorem ev_dr (k : Nat) (x0 : Dm (.imm S_TstTest)) (x1 : Dm (.imm S_TstTest)) : E_dr g_dq p_dq k (x0, x1, ()) =
 (bif (Sh.beq S_SpcTest x0.1 x1.1) then (bif (decide (x0.2.1 = x1.2.1)) then (bif (Sh.beq S_DecDec x0.2.2.1 x1.2.2.1) then (bif (decide (x0.2.2.2.1 = x1.2.2.2.1)) then (bif (p_dq (x0.2.2.2.2, (x1.2.2.2.2, ()))) then (some ((g_dq (x0.2.2.2.2, (x1.2.2.2.2, ()))).1, ())) else none) else (some (false, ()))) else (some (false, ()))) else (some (false, ()))) else (some (false, ()))) := by kernel_rfl
theorem S_dr (h_dq : C_dq p_dq g_dq) {pre fn} (hev : Hq (E_dr g_dq p_dq) pre fn) : C_dr pre fn := sound tysOk mixed (fn := Tryz.f41) rfl rfl rfl (.cons h_dq .nil) _ hev
end
abbrev M_ds : Lm := [.imm S_BatBatch, .imm S_BatBatch]
abbrev R_ds : Lr := [(.imm, .bool)]
abbrev In_ds := Iq M_ds
abbrev Out_ds := Oq R_ds M_ds
abbrev C_ds := Cq 21 M_ds R_ds
section
variable (g_dr : In_dr -> Out_dr) (p_dr : In_dr -> Bool)
abbrev X_ds : Ctx := ctx tys 109 (conOf [(41, ⟨M_dr, R_dr, p_dr, g_dr⟩)]) (keepOf [(pt9, (⟨[(2, .asis), (3, .asis), (7, .asis)], [(2, .asis), (3, .asis)], []⟩ : Keep)), (pt2, (⟨[(2, .asis), (3, .asis), (6, .asis)], [(2, .asis), (3, .asis)], []⟩ : Keep)), (pt0, (⟨[(2, .asis), (3, .asis), (5, .asis)], [(2, .asis), (3, .asis)], []⟩ : Keep))]) nF
abbrev E_ds := evFn (X_ds g_dr p_dr) Tryz.f21 R_ds M_ds
def h0_ds (x0 : Dm (.imm S_BatBatch)) (x1 : Dm (.imm S_BatBatch)) (h0 : Dn I) : St := mkS [(2, (AV.ptr 2 none [])), (3, (AV.ptr 3 none [])), (5, (AV.val I h0))] [(2, (Ob.box S_BatBatch (AV.val S_BatBatch x0))), (3, (Ob.box S_BatBatch (AV.val S_BatBatch x1)))]
def h1_ds (x0 : Dm (.imm S_BatBatch)) (x1 : Dm (.imm S_BatBatch)) (h0 : Dn I) : St := mkS [(2, (AV.ptr 2 none [])), (3, (AV.ptr 3 none [])), (6, (AV.val I h0))] [(2, (Ob.box S_BatBatch (AV.val S_BatBatch x0))), (3, (Ob.box S_BatBatch (AV.val S_BatBatch x1)))]
def h2_ds (x0 : Dm (.imm S_BatBatch)) (x1 : Dm (.imm S_BatBatch)) (h0 : Dn I) : St := mkS [(2, (AV.ptr 2 none [])), (3, (AV.ptr 3 none [])), (7, (AV.val I h0))] [(2, (Ob.box S_BatBatch (AV.val S_BatBatch x0))), (3, (Ob.box S_BatBatch (AV.val S_BatBatch x1)))]
def r_ds := rounds (X_ds g_dr p_dr) Tryz.f21 R_ds M_ds
variable {g_dr p_dr}
theorem ev_ds (k : Nat) (x0 : Dm (.imm S_BatBatch)) (x1 : Dm (.imm S_BatBatch)) : E_ds g_dr p_dr k (x0, x1, ()) =
 (bif (bif (decide (x0.1 = x1.1)) then false else true) then (some (false, ())) else (bif (bif (decide (x0.2.1 = x1.2.1)) then false else true) then (some (false, ())) else (bif (bif (decide (x0.2.2.2.1 = x1.2.2.2.1)) then false else true) then (some (false, ())) else (bif (bif (decide ((List.length x0.2.2.1 : Int) = (List.length x1.2.2.1 : Int))) then false else true) then (some (false, ())) else (bif (bif (decide ((List.length x0.2.2.2.2.1 : Int) = (List.length x1.2.2.2.2.1 : Int))) then false else true) then (some (false, ())) else (bif (bif (decide ((List.length x0.2.2.2.2.2 : Int) = (List.length x1.2.2.2.2.2 : Int))) then false else true) then (some (false, ())) else (r_ds g_dr p_dr (x0, x1, ()) k pt0 (h0_ds x0 x1 (0 : Int))))))))) := by kernel_rfl
theorem rd0_ds (k : Nat) (x0 : Dm (.imm S_BatBatch)) (x1 : Dm (.imm S_BatBatch)) (h0 : Dn I) : r_ds g_dr p_dr (x0, x1, ()) (k + 1) pt0 (h0_ds x0 x1 h0) =
 (bif (decide (h0 < (List.length x0.2.2.1 : Int))) then (bif (bif (decide ((0 : Int) <= h0)) then (decide (h0 < (List.length x0.2.2.1 : Int))) else false) then (bif (bif (decide ((0 : Int) <= h0)) then (decide (h0 < (List.length x1.2.2.1 : Int))) else false) then (cl (p_dr ((rdL (e := S_TstTest) x0.2.2.1 h0), ((rdL (e := S_TstTest) x1.2.2.1 h0), ()))) (g_dr ((rdL (e := S_TstTest) x0.2.2.1 h0), ((rdL (e := S_TstTest) x1.2.2.1 h0), ()))) fun y0 => (bif (bif y0.1 then false else true) then (some (false, ())) else (r_ds g_dr p_dr (x0, x1, ()) k pt0 (h0_ds x0 x1 (w64 (h0 + (1 : Int))))))) else none) else none) else (r_ds g_dr p_dr (x0, x1, ()) k pt2 (h1_ds x0 x1 (0 : Int)))) := by kernel_rfl
theorem rd1_ds (k : Nat) (x0 : Dm (.imm S_BatBatch)) (x1 : Dm (.imm S_BatBatch)) (h0 : Dn I) : r_ds g_dr p_dr (x0, x1, ()) (k + 1) pt2 (h1_ds x0 x1 h0) =
 (bif (decide (h0 < (List.length x0.2.2.2.2.1 : Int))) then (bif (bif (decide ((0 : Int) <= h0)) then (decide (h0 < (List.length x0.2.2.2.2.1 : Int))) else false) then (bif (bif (decide ((0 : Int) <= h0)) then (decide (h0 < (List.length x1.2.2.2.2.1 : Int))) else false) then (bif (bif (Sh.beq S_BatSig (rdL (e := S_BatSig) x0.2.2.2.2.1 h0) (rdL (e := S_BatSig) x1.2.2.2.2.1 h0)) then false else true) then (some (false, ())) else (r_ds g_dr p_dr (x0, x1, ()) k pt2 (h1_ds x0 x1 (w64 (h0 + (1 : Int)))))) else none) else none) else (r_ds g_dr p_dr (x0, x1, ()) k pt9 (h2_ds x0 x1 (0 : Int)))) := by kernel_rfl
theorem rd2_ds (k : Nat) (x0 : Dm (.imm S_BatBatch)) (x1 : Dm (.imm S_BatBatch)) (h0 : Dn I) : r_ds g_dr p_dr (x0, x1, ()) (k + 1) pt9 (h2_ds x0 x1 h0) =
 (bif (decide (h0 < (List.length x0.2.2.2.2.2 : Int))) then (bif (bif (decide ((0 : Int) <= h0)) then (decide (h0 < (List.length x0.2.2.2.2.2 : Int))) else false) then (bif (bif (decide ((0 : Int) <= h0)) then (decide (h0 < (List.length x1.2.2.2.2.2 : Int))) else false) then (bif (bif ((rdL (e := Sh.bool) x0.2.2.2.2.2 h0) == (rdL (e := Sh.bool) x1.2.2.2.2.2 h0)) then false else true) then (some (false, ())) else (r_ds g_dr p_dr (x0, x1, ()) k pt9 (h2_ds x0 x1 (w64 (h0 + (1 : Int)))))) else none) else none) else (some (true, ()))) := by kernel_rfl
theorem S_ds (h_dr : C_dr p_dr g_dr) {pre fn} (hev : Hq (E_ds g_dr p_dr) pre fn) : C_ds pre fn := sound tysOk mixed (fn := Tryz.f21) rfl rfl rfl (.cons h_dr .nil) _ hev
end
abbrev M_dt : Lm := [.imm I]
abbrev R_dt : Lr := [(.imm, .bool)]
abbrev In_dt := Iq M_dt
abbrev Out_dt := Oq R_dt M_dt
abbrev C_dt := Cq 185 M_dt R_dt
abbrev X_dt : Ctx := ctx tys 16 (conOf []) (keepOf []) nF
abbrev E_dt := evFn X_dt Tryz.f185 R_dt M_dt
theorem ev_dt (k : Nat) (x0 : Dm (.imm I)) : E_dt k (x0, ()) =
 (bif (bif (decide ((4 : Int) = (0 : Int))) then false else true) then (bif (decide ((Int.tmod x0 (4 : Int)) = (0 : Int))) then (bif (bif (decide ((100 : Int) = (0 : Int))) then false else true) then (bif (bif (decide ((Int.tmod x0 (100 : Int)) = (0 : Int))) then false else true) then (some (true, ())) else (bif (bif (decide ((400 : Int) = (0 : Int))) then false else true) then (some ((decide ((Int.tmod x0 (400 : Int)) = (0 : Int))), ())) else none)) else none) else (some (false, ()))) else none) := by kernel_rfl
theorem S_dt  {pre fn} (hev : Hq E_dt pre fn) : C_dt pre fn := sound tysOk mixed (fn := Tryz.f185) rfl rfl rfl ConsOk.nil _ hev
abbrev M_du : Lm := [.imm I, .imm I]
abbrev R_du : Lr := [(.imm, I)]
abbrev In_du := Iq M_du
abbrev Out_du := Oq R_du M_du
abbrev C_du := Cq 137 M_du R_du
section
variable (g_iin : In_iin -> Out_iin) (g_dt : In_dt -> Out_dt)
abbrev X_du : Ctx := ctx tys 20 (conOf [(65, ⟨M_iin, R_iin, fun _ => true, g_iin⟩), (185, ⟨M_dt, R_dt, fun _ => true, g_dt⟩)]) (keepOf []) nF
abbrev E_du := evFn (X_du g_iin g_dt) Tryz.f137 R_du M_du
variable {g_iin g_dt}
theorem ev_du (k : Nat) (x0 : Dm (.imm I)) (x1 : Dm (.imm I)) : E_du g_iin g_dt k (x0, x1, ()) =
 (bif (bif (g_iin (x1, ((1 : Int), ((12 : Int), ())))).1 then false else true) then (some ((0 : Int), ())) else (bif (decide (x1 = (2 : Int))) then (bif (g_dt (x0, ())).1 then (some ((29 : Int), ())) else none) else none)) := by kernel_rfl
theorem S_du (h_iin : C_iin (fun _ => true) g_iin) (h_dt : C_dt (fun _ => true) g_dt) {pre fn} (hev : Hq (E_du g_iin g_dt) pre fn) : C_du pre fn := sound tysOk mixed (fn := Tryz.f137) rfl rfl rfl (.cons h_iin (.cons h_dt .nil)) _ hev
end
abbrev M_dv : Lm := [.imm S_BatSig]
abbrev R_dv : Lr := [(.imm, .bool)]
abbrev In_dv := Iq M_dv
abbrev Out_dv := Oq R_dv M_dv
abbrev C_dv := Cq 64 M_dv R_dv
section
variable (g_iin : In_iin -> Out_iin) (g_du : In_du -> Out_du) (p_du : In_du -> Bool)
abbrev X_dv : Ctx := ctx tys 16 (conOf [(65, ⟨M_iin, R_iin, fun _ => true, g_iin⟩), (137, ⟨M_du, R_du, p_du, g_du⟩)]) (keepOf []) nF
abbrev E_dv := evFn (X_dv g_iin g_du p_du) Tryz.f64 R_dv M_dv
variable {g_iin g_du p_du}
theorem ev_dv (k : Nat) (x0 : Dm (.imm S_BatSig)) : E_dv g_iin g_du p_du k (x0, ()) =
 (bif (g_iin (x0.1, ((1900 : Int), ((2199 : Int), ())))).1 then (bif (p_du (x0.1, (x0.2.1, ()))) then (some ((g_iin (x0.2.2, ((1 : Int), ((g_du (x0.1, (x0.2.1, ()))).1, ())))).1, ())) else none) else (some (false, ()))) := by kernel_rfl
theorem S_dv (h_iin : C_iin (fun _ => true) g_iin) (h_du : C_du p_du g_du) {pre fn} (hev : Hq (E_dv g_iin g_du p_du) pre fn) : C_dv pre fn := sound tysOk mixed (fn := Tryz.f64) rfl rfl rfl (.cons h_iin (.cons h_du .nil)) _ hev
end
abbrev M_dw : Lm := []
abbrev R_dw : Lr := [(.imm, .bool)]
abbrev In_dw := Iq M_dw
abbrev Out_dw := Oq R_dw M_dw
abbrev C_dw := Cq 19 M_dw R_dw
section
variable (g_dv : In_dv -> Out_dv) (p_dv : In_dv -> Bool)
abbrev X_dw : Ctx := ctx tys 3 (conOf [(64, ⟨M_dv, R_dv, p_dv, g_dv⟩)]) (keepOf []) nF
abbrev E_dw := evFn (X_dw g_dv p_dv) Tryz.f19 R_dw M_dw
variable {g_dv p_dv}
theorem ev_dw (k : Nat)  : E_dw g_dv p_dv k (()) =
 (bif (p_dv (((2000 : Int), ((2 : Int), (29 : Int))), ())) then (some ((g_dv (((2000 : Int), ((2 : Int), (29 : Int))), ())).1, ())) else none) := by kernel_rfl
theorem S_dw (h_dv : C_dv p_dv g_dv) {pre fn} (hev : Hq (E_dw g_dv p_dv) pre fn) : C_dw pre fn := sound tysOk mixed (fn := Tryz.f19) rfl rfl rfl (.cons h_dv .nil) _ hev
end
abbrev M_lFnBatTest : Lm := [.imm L_u8]
abbrev R_lFnBatTest : Lr := [(.own, .bool)]
abbrev In_lFnBatTest := Iq M_lFnBatTest
abbrev Out_lFnBatTest := Oq R_lFnBatTest M_lFnBatTest
abbrev C_lFnBatTest := Cq 8 M_lFnBatTest R_lFnBatTest
section
variable (g_c1 : In_c1 -> Out_c1) (p_c1 : In_c1 -> Bool) (g_dp : In_dp -> Out_dp) (p_dp : In_dp -> Bool) (g_bg : In_bg -> Out_bg) (p_bg : In_bg -> Bool) (g_ds : In_ds -> Out_ds) (p_ds : In_ds -> Bool) (g_bb : In_bb -> Out_bb) (p_bb : In_bb -> Bool) (g_dw : In_dw -> Out_dw) (g_dr : In_dr -> Out_dr) (p_dr : In_dr -> Bool) (g_dg : In_dg -> Out_dg) (p_dg : In_dg -> Bool) (g_dj : In_dj -> Out_dj) (p_dj : In_dj -> Bool) (g_dm : In_dm -> Out_dm) (p_dm : In_dm -> Bool) (g_db : In_db -> Out_db) (p_db : In_db -> Bool)
abbrev X_lFnBatTest : Ctx := ctx tys 153 (conOf [(38, ⟨M_c1, R_c1, p_c1, g_c1⟩), (39, ⟨M_dp, R_dp, p_dp, g_dp⟩), (40, ⟨M_bg, R_bg, p_bg, g_bg⟩), (21, ⟨M_ds, R_ds, p_ds, g_ds⟩), (28, ⟨M_bb, R_bb, p_bb, g_bb⟩), (19, ⟨M_dw, R_dw, fun _ => true, g_dw⟩), (41, ⟨M_dr, R_dr, p_dr, g_dr⟩), (42, ⟨M_dg, R_dg, p_dg, g_dg⟩), (43, ⟨M_dj, R_dj, p_dj, g_dj⟩), (44, ⟨M_dm, R_dm, p_dm, g_dm⟩), (34, ⟨M_db, R_db, p_db, g_db⟩)]) (keepOf [(pt3, (⟨[(3, .asis), (4, .asis), (5, .asis), (6, .asis), (7, .asis), (8, .asis), (12, .asis)], [(3, .asis), (6, .asis), (8, (.pair .asis (.pair .asis (.pair .own (.pair .asis (.pair .own .own))))))], []⟩ : Keep))]) nF
abbrev E_lFnBatTest := evFn (X_lFnBatTest g_c1 p_c1 g_dp p_dp g_bg p_bg g_ds p_ds g_bb p_bb g_dw g_dr p_dr g_dg p_dg g_dj p_dj g_dm p_dm g_db p_db) Tryz.f8 R_lFnBatTest M_lFnBatTest
def h0_lFnBatTest (x0 : Dm (.imm L_u8)) (h0 : Dn I) (h1 : Dn I) (h2 : Dn I) (h3 : Dn I) (h4 : Dn S_BatBatch) (h5 : Dn S_DecDec) (h6 : Dn I) (h7 : Dn I) (h8 : Dn I) (h9 : (List (Dn S_TstTest))) (h10 : (List (Dn S_BatSig))) (h11 : (List (Dn Sh.bool))) : St := mkS [(3, (AV.ptr 3 none [])), (4, (AV.val I h0)), (5, (AV.val I h1)), (6, (AV.ptr 6 none [])), (7, (AV.val I h2)), (8, (AV.ptr 8 none [])), (12, (AV.val I h3))] [(3, (Ob.box S_BatBatch (AV.val S_BatBatch h4))), (6, (Ob.box S_DecDec (AV.val S_DecDec h5))), (8, (Ob.box S_BatBatch (AV.pair (AV.val I h6) (AV.pair (AV.val I h7) (AV.pair (AV.sref 2508 none []) (AV.pair (AV.val I h8) (AV.pair (AV.sref 12508 none []) (AV.sref 22508 none [])))))))), (2508, (Ob.arr 56 S_TstTest h9)), (12508, (Ob.arr 58 S_BatSig h10)), (22508, (Ob.arr 4 Sh.bool h11))]
def r_lFnBatTest := rounds (X_lFnBatTest g_c1 p_c1 g_dp p_dp g_bg p_bg g_ds p_ds g_bb p_bb g_dw g_dr p_dr g_dg p_dg g_dj p_dj g_dm p_dm g_db p_db) Tryz.f8 R_lFnBatTest M_lFnBatTest
variable {g_c1 p_c1 g_dp p_dp g_bg p_bg g_ds p_ds g_bb p_bb g_dw g_dr p_dr g_dg p_dg g_dj p_dj g_dm p_dm g_db p_db}
theorem ev_lFnBatTest (k : Nat) (x0 : Dm (.imm L_u8)) : E_lFnBatTest g_c1 p_c1 g_dp p_dp g_bg p_bg g_ds p_ds g_bb p_bb g_dw g_dr p_dr g_dg p_dg g_dj p_dj g_dm p_dm g_db p_db k (x0, ()) =
 (bif (decide ((1048576 : Int) < (List.length x0 : Int))) then (some (true, ())) else (cl (p_c1 (x0, ())) (g_c1 (x0, ())) fun y0 => (cl (p_dp (y0.1, (y0.2.1, (y0.2.2.1, (y0.2.2.2.1, (y0.2.2.2.2.1, ())))))) (g_dp (y0.1, (y0.2.1, (y0.2.2.1, (y0.2.2.2.1, (y0.2.2.2.2.1, ())))))) fun y1 => (cl (p_bg (y0.1, (y0.2.1, (y0.2.2.1, (y0.2.2.2.1, (y0.2.2.2.2.1, ())))))) (g_bg (y0.1, (y0.2.1, (y0.2.2.1, (y0.2.2.2.1, (y0.2.2.2.2.1, ())))))) fun y2 => (cl (p_ds (y1.1, (y2.1, ()))) (g_ds (y1.1, (y2.1, ()))) fun y3 => (bif (bif y3.1 then false else true) then (some (false, ())) else (bif (bif (y1.2.1 == y2.2.1) then false else true) then (some (false, ())) else (bif (bif y1.2.1 then false else true) then (cl (p_ds (y1.1, (y0.1, ()))) (g_ds (y1.1, (y0.1, ()))) fun y4 => (bif y4.1 then (some ((g_dw ()).1, ())) else (cl (p_bb (y0.1, ())) (g_bb (y0.1, ())) fun y5 => (bif (bif y5.1 then false else true) then (some ((g_dw ()).1, ())) else (some (false, ())))))) else (r_lFnBatTest g_c1 p_c1 g_dp p_dp g_bg p_bg g_ds p_ds g_bb p_bb g_dw g_dr p_dr g_dg p_dg g_dj p_dj g_dm p_dm g_db p_db (x0, ()) k pt3 (h0_lFnBatTest x0 (y0.2.1) (y0.2.2.1) (y0.2.2.2.2.1) (0 : Int) (y0.1) (y0.2.2.2.1) (y1.1.1) (y1.1.2.1) (y1.1.2.2.2.1) (y1.1.2.2.1) (y1.1.2.2.2.2.1) (y1.1.2.2.2.2.2))))))))))) := by kernel_rfl
theorem rd0_lFnBatTest (k : Nat) (x0 : Dm (.imm L_u8)) (h0 : Dn I) (h1 : Dn I) (h2 : Dn I) (h3 : Dn I) (h4 : Dn S_BatBatch) (h5 : Dn S_DecDec) (h6 : Dn I) (h7 : Dn I) (h8 : Dn I) (h9 : (List (Dn S_TstTest))) (h10 : (List (Dn S_BatSig))) (h11 : (List (Dn Sh.bool))) : r_lFnBatTest g_c1 p_c1 g_dp p_dp g_bg p_bg g_ds p_ds g_bb p_bb g_dw g_dr p_dr g_dg p_dg g_dj p_dj g_dm p_dm g_db p_db (x0, ()) (k + 1) pt3 (h0_lFnBatTest x0 h0 h1 h2 h3 h4 h5 h6 h7 h8 h9 h10 h11) =
 (bif (decide (h3 < (List.length h4.2.2.1 : Int))) then (bif (bif (decide ((0 : Int) <= h3)) then (decide (h3 < (List.length h4.2.2.1 : Int))) else false) then (bif (bif (decide ((rdL (e := S_TstTest) h4.2.2.1 h3).1.1 = h0)) then false else true) then (bif (bif (decide ((0 : Int) <= h3)) then (decide (h3 < (List.length h9 : Int))) else false) then (bif (bif (decide ((0 : Int) <= h3)) then (decide (h3 < (List.length h4.2.2.1 : Int))) else false) then (cl (p_dr ((rdL (e := S_TstTest) h9 h3), ((rdL (e := S_TstTest) h4.2.2.1 h3), ()))) (g_dr ((rdL (e := S_TstTest) h9 h3), ((rdL (e := S_TstTest) h4.2.2.1 h3), ()))) fun y0 => (bif (bif y0.1 then false else true) then (some (false, ())) else (r_lFnBatTest g_c1 p_c1 g_dp p_dp g_bg p_bg g_ds p_ds g_bb p_bb g_dw g_dr p_dr g_dg p_dg g_dj p_dj g_dm p_dm g_db p_db (x0, ()) k pt3 (h0_lFnBatTest x0 h0 h1 h2 (w64 (h3 + (1 : Int))) h4 h5 h6 h7 h8 h9 h10 h11)))) else none) else none) else (bif (bif (decide ((0 : Int) <= h3)) then (decide (h3 < (List.length h4.2.2.1 : Int))) else false) then (cl (p_dg ((rdL (e := S_TstTest) h4.2.2.1 h3), (h5, ()))) (g_dg ((rdL (e := S_TstTest) h4.2.2.1 h3), (h5, ()))) fun y1 => (bif (decide (h1 = (2 : Int))) then (bif (bif (decide ((0 : Int) <= h3)) then (decide (h3 < (List.length h4.2.2.1 : Int))) else false) then (cl (p_dj ((rdL (e := S_TstTest) h4.2.2.1 h3), (h2, ()))) (g_dj ((rdL (e := S_TstTest) h4.2.2.1 h3), (h2, ()))) fun y2 => (bif (decide (h1 = (3 : Int))) then (bif (bif (decide ((0 : Int) <= h3)) then (decide (h3 < (List.length h4.2.2.1 : Int))) else false) then (cl (p_dm ((rdL (e := S_TstTest) h4.2.2.1 h3), (h5, ()))) (g_dm ((rdL (e := S_TstTest) h4.2.2.1 h3), (h5, ()))) fun y3 => (bif (bif (decide ((0 : Int) <= h3)) then (decide (h3 < (List.length h9 : Int))) else false) then (cl (p_dr ((rdL (e := S_TstTest) h9 h3), (y3.1, ()))) (g_dr ((rdL (e := S_TstTest) h9 h3), (y3.1, ()))) fun y4 => (bif (bif y4.1 then false else true) then (some (false, ())) else (r_lFnBatTest g_c1 p_c1 g_dp p_dp g_bg p_bg g_ds p_ds g_bb p_bb g_dw g_dr p_dr g_dg p_dg g_dj p_dj g_dm p_dm g_db p_db (x0, ()) k pt3 (h0_lFnBatTest x0 h0 h1 h2 (w64 (h3 + (1 : Int))) h4 h5 h6 h7 h8 h9 h10 h11)))) else none)) else none) else (bif (bif (decide ((0 : Int) <= h3)) then (decide (h3 < (List.length h9 : Int))) else false) then (cl (p_dr ((rdL (e := S_TstTest) h9 h3), (y2.1, ()))) (g_dr ((rdL (e := S_TstTest) h9 h3), (y2.1, ()))) fun y5 => (bif (bif y5.1 then false else true) then (some (false, ())) else (r_lFnBatTest g_c1 p_c1 g_dp p_dp g_bg p_bg g_ds p_ds g_bb p_bb g_dw g_dr p_dr g_dg p_dg g_dj p_dj g_dm p_dm g_db p_db (x0, ()) k pt3 (h0_lFnBatTest x0 h0 h1 h2 (w64 (h3 + (1 : Int))) h4 h5 h6 h7 h8 h9 h10 h11)))) else none))) else none) else (bif (decide (h1 = (3 : Int))) then (bif (bif (decide ((0 : Int) <= h3)) then (decide (h3 < (List.length h4.2.2.1 : Int))) else false) then (cl (p_dm ((rdL (e := S_TstTest) h4.2.2.1 h3), (h5, ()))) (g_dm ((rdL (e := S_TstTest) h4.2.2.1 h3), (h5, ()))) fun y6 => (bif (bif (decide ((0 : Int) <= h3)) then (decide (h3 < (List.length h9 : Int))) else false) then (cl (p_dr ((rdL (e := S_TstTest) h9 h3), (y6.1, ()))) (g_dr ((rdL (e := S_TstTest) h9 h3), (y6.1, ()))) fun y7 => (bif (bif y7.1 then false else true) then (some (false, ())) else (r_lFnBatTest g_c1 p_c1 g_dp p_dp g_bg p_bg g_ds p_ds g_bb p_bb g_dw g_dr p_dr g_dg p_dg g_dj p_dj g_dm p_dm g_db p_db (x0, ()) k pt3 (h0_lFnBatTest x0 h0 h1 h2 (w64 (h3 + (1 : Int))) h4 h5 h6 h7 h8 h9 h10 h11)))) else none)) else none) else (bif (bif (decide ((0 : Int) <= h3)) then (decide (h3 < (List.length h9 : Int))) else false) then (cl (p_dr ((rdL (e := S_TstTest) h9 h3), (y1.1, ()))) (g_dr ((rdL (e := S_TstTest) h9 h3), (y1.1, ()))) fun y8 => (bif (bif y8.1 then false else true) then (some (false, ())) else (r_lFnBatTest g_c1 p_c1 g_dp p_dp g_bg p_bg g_ds p_ds g_bb p_bb g_dw g_dr p_dr g_dg p_dg g_dj p_dj g_dm p_dm g_db p_db (x0, ()) k pt3 (h0_lFnBatTest x0 h0 h1 h2 (w64 (h3 + (1 : Int))) h4 h5 h6 h7 h8 h9 h10 h11)))) else none)))) else none)) else none) else (cl (p_ds ((h6, (h7, (h4.2.2.1, (h8, (h10, h11))))), (h4, ()))) (g_ds ((h6, (h7, (h4.2.2.1, (h8, (h10, h11))))), (h4, ()))) fun y9 => (bif y9.1 then (bif (decide (h4.2.2.2.1 = (1 : Int))) then (cl (p_db ((h6, (h7, (h9, (h8, (h10, h11))))), ())) (g_db ((h6, (h7, (h9, (h8, (h10, h11))))), ())) fun y10 => (some (y10.1, ()))) else (some (false, ()))) else (some (false, ()))))) := by kernel_rfl
theorem S_lFnBatTest (h_c1 : C_c1 p_c1 g_c1) (h_dp : C_dp p_dp g_dp) (h_bg : C_bg p_bg g_bg) (h_ds : C_ds p_ds g_ds) (h_bb : C_bb p_bb g_bb) (h_dw : C_dw (fun _ => true) g_dw) (h_dr : C_dr p_dr g_dr) (h_dg : C_dg p_dg g_dg) (h_dj : C_dj p_dj g_dj) (h_dm : C_dm p_dm g_dm) (h_db : C_db p_db g_db) {pre fn} (hev : Hq (E_lFnBatTest g_c1 p_c1 g_dp p_dp g_bg p_bg g_ds p_ds g_bb p_bb g_dw g_dr p_dr g_dg p_dg g_dj p_dj g_dm p_dm g_db p_db) pre fn) : C_lFnBatTest pre fn := sound tysOk mixed (fn := Tryz.f8) rfl rfl rfl (.cons h_c1 (.cons h_dp (.cons h_bg (.cons h_ds (.cons h_bb (.cons h_dw (.cons h_dr (.cons h_dg (.cons h_dj (.cons h_dm (.cons h_db .nil))))))))))) _ hev
end
end
end Go.Proofs.YtddpemilmeijfaaGreat
